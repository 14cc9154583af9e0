/- Parts of the proof, joined: each theorem says what it shows. -/
import Derived.Test.YtgjkgkgieeoalaaGreatC25
import Derived.Test.YtgjkgkgieeoalaaGreatC23
import Derived.Test.YtgjkgkgieeoalaaGreatC21
import Derived.Test.YtgjkgkgieeoalaaGreatC26
import Derived.Test.YtgjkgkgieeoalaaGreatC01
import Derived.OrdersHeld
import Derived.StillTail
import Derived.Deep.QuietTactic
set_option linter.unusedVariables false
set_option linter.unusedSimpArgs false
set_option maxHeartbeats 24000000
set_option maxRecDepth 100000
namespace Go.Proofs.YtgjkgkgieeoalaaGreat
def IntP (ts : List TermD) : Prop := ∀ t ∈ ts, ∃ n : Int, t.c = ofD n
def mass : List TermD → Nat
 | [] => 0
 | t :: ts => val t.c.num + mass ts
theorem val_ofD (n : Int) : val (ofD n).num = n.natAbs := val_limbs _
theorem mass_app (a b : List TermD) : mass (a ++ b) = mass a + mass b := by
 induction a with
 | nil => simp [mass]
 | cons t a ih => simp only [List.cons_append, mass, ih]; omega
theorem mass_perm {a b : List TermD} (h : a.Perm b) : mass a = mass b := by
 induction h with
 | nil => rfl
 | cons t _ ih => simp only [mass, ih]
 | swap s t l => simp only [mass]; omega
 | trans _ _ h1 h2 => exact h1.trans h2
theorem mass_filter (p : TermD → Bool) (ts : List TermD) : mass (ts.filter p) ≤ mass ts := by
 induction ts with
 | nil => exact Nat.le_refl _
 | cons t ts ih =>
   rw [List.filter_cons]
   split
   ·simp only [mass]; omega
   ·simp only [mass]; omega
theorem mass_mem {ts : List TermD} {t : TermD} (h : t ∈ ts) : val t.c.num ≤ mass ts := by
 induction ts with
 | nil => cases h
 | cons s ts ih =>
   simp only [mass]
   rcases List.mem_cons.1 h with rfl | h
   ·omega
   ·have := ih h; omega
theorem mass_setM {al : List TermD} (hk : al.Pairwise fun p q => p.m ≠ q.m) {p : TermD} (hp : p ∈ al) (c : RatD) : mass (setM al p.m c) + val p.c.num = mass al + val c.num := by
 induction al with
 | nil => cases hp
 | cons q r ih =>
   obtain ⟨h1, h2⟩ := List.pairwise_cons.1 hk
   have e : setM (q :: r) p.m c = (if q.m = p.m then ⟨c, p.m⟩ else q) :: setM r p.m c := rfl
   rcases List.mem_cons.1 hp with rfl | hp
   ·rw [e, if_pos rfl, setM_far (fun s hs => fun h => h1 s hs h.symm)]
    simp only [mass]
    omega
   ·rw [e, if_neg (h1 p hp)]
    simp only [mass]
    have := ih h2 hp
    omega
theorem IntP.hd {t : TermD} {ts : List TermD} (h : IntP (t :: ts)) : ∃ n : Int, t.c = ofD n := h t (by simp)
theorem IntP.tl {t : TermD} {ts : List TermD} (h : IntP (t :: ts)) : IntP ts := fun s hs => h s (by simp [hs])
theorem IntP.nil : IntP [] := fun _ h => by cases h
theorem IntP.cons {t : TermD} {ts : List TermD} (h : ∃ n : Int, t.c = ofD n) (hs : IntP ts) : IntP (t :: ts) := fun s hm => by
 rcases List.mem_cons.1 hm with rfl | hm
 ·exact h
 ·exact hs s hm
theorem IntP.app {a b : List TermD} (h : IntP a) (h' : IntP b) : IntP (a ++ b) := fun s hm => by
 rcases List.mem_append.1 hm with hm | hm
 ·exact h s hm
 ·exact h' s hm
theorem IntP.good {ts : List TermD} (h : IntP ts) (hg : GoodM ts) (hm : mass ts < 4611686018427387904) : GoodP ts := fun t ht => by
 obtain ⟨n, e⟩ := h t ht
 have := mass_mem ht
 rw [e, val_ofD] at this
 exact ⟨by rw [e]; exact ofD_small (by omega), hg t ht⟩
theorem putD_int {o : Int} {al : List TermD} {t : TermD} (h : Sta o al) (hi : IntP al) (ht : ∃ n : Int, t.c = ofD n) (hm : mass al + val t.c.num < 4611686018427387904) :
    (putD o al t).1 = 0 ∧ IntP (putD o al t).2 ∧ mass (putD o al t).2 ≤ mass al + val t.c.num ∧ ∀ s ∈ (putD o al t).2, s.m = t.m ∨ ∃ r ∈ al, r.m = s.m := by
 obtain ⟨b, eb⟩ := ht
 have vb := val_ofD b
 rw [← eb] at vb
 unfold putD
 by_cases hh : hasM al t.m = true
 ·rw [if_pos hh]
  obtain ⟨p, hp, em, ec⟩ := getM_of hh
  obtain ⟨a, ea⟩ := hi p hp
  have va := val_ofD a
  rw [← ea] at va
  have hpm := mass_mem hp
  rw [ec, ea, eb, addD_int (by omega) (by omega)]
  simp only [ne_eq, not_true, if_false]
  refine ⟨trivial, fun s hs => ?_, ?_, fun s hs => ?_⟩
  ·rcases (mem_setM hh).1 hs with rfl | ⟨hs, _⟩
   ·exact ⟨_, rfl⟩
   ·exact hi s hs
  ·have := mass_setM h.keys hp (ofD (a + b))
   rw [em, val_ofD] at this
   rw [eb] at vb
   omega
  ·rcases (mem_setM hh).1 hs with rfl | ⟨hs, _⟩
   ·exact .inl rfl
   ·exact .inr ⟨s, hs, rfl⟩
 ·rw [if_neg hh]
  refine ⟨rfl, fun s hs => ?_, ?_, fun s hs => ?_⟩
  ·rcases mem_insD.1 hs with rfl | hs
   ·exact ⟨b, eb⟩
   ·exact hi s hs
  ·rw [mass_perm (insD_perm o t al)]
   simp only [mass]
   omega
  ·rcases mem_insD.1 hs with rfl | hs
   ·exact .inl rfl
   ·exact .inr ⟨s, hs, rfl⟩
theorem putAll_int {o : Int} : ∀ (ts al : List TermD), Sta o al → IntP al → GoodM ts → IntP ts → mass al + mass ts < 4611686018427387904 →
    (putAll o al ts).1 = 0 ∧ IntP (putAll o al ts).2 ∧ mass (putAll o al ts).2 ≤ mass al + mass ts ∧ ∀ s ∈ (putAll o al ts).2, (∃ r ∈ ts, r.m = s.m) ∨ ∃ r ∈ al, r.m = s.m
 | [], al, h, hi, _, _, _ => ⟨rfl, hi, by simp [putAll, mass], fun s hs => .inr ⟨s, hs, rfl⟩⟩
 | t :: ts, al, h, hi, hg, ht, hm => by
   simp only [mass] at hm
   obtain ⟨a1, a2, a3, a4⟩ := putD_int h hi ht.hd (by omega)
   unfold putAll
   rw [if_neg (by simpa using a1)]
   obtain ⟨b1, b2, b3, b4⟩ := putAll_int ts _ (h.putD (hg t (by simp)) a1) a2 (fun s hs => hg s (by simp [hs])) ht.tl (by omega)
   refine ⟨b1, b2, by simp only [mass]; omega, fun s hs => ?_⟩
   rcases b4 s hs with ⟨r, hr, e⟩ | ⟨r, hr, e⟩
   ·exact .inl ⟨r, by simp [hr], e⟩
   ·rcases a4 r hr with h' | ⟨q, hq, e'⟩
    ·exact .inl ⟨t, by simp, by rw [← e, h']⟩
    ·exact .inr ⟨q, hq, e'.trans e⟩
def polSum (o : Int) (ts : List TermD) : List TermD := (putAll o [] ts).2.filter nz
structure Ints (M : Nat) (ts : List TermD) : Prop where
 int : IntP ts
 good : GoodM ts
 mass : mass ts ≤ M
theorem Ints.nil : Ints 0 [] := ⟨.nil, (fun _ h => by cases h), Nat.le_refl _⟩
theorem Ints.le {M N : Nat} {ts : List TermD} (h : Ints M ts) (hn : M ≤ N) : Ints N ts := ⟨h.1, h.2, Nat.le_trans h.3 hn⟩
theorem Ints.app {M N : Nat} {a b : List TermD} (h : Ints M a) (h' : Ints N b) : Ints (M + N) (a ++ b) :=
 ⟨h.1.app h'.1, fun s hs => (List.mem_append.1 hs).elim (h.2 s) (h'.2 s), by rw [mass_app]; have := h.3; have := h'.3; omega⟩
theorem Ints.one {n : Int} {m : MonD} (hm : monMay m = true) : Ints n.natAbs [⟨ofD n, m⟩] :=
 ⟨.cons ⟨n, rfl⟩ .nil, fun s hs => by
  simp only [List.mem_cons, List.not_mem_nil, or_false] at hs
  rw [hs]; exact hm, by simp [Proofs.YtgjkgkgieeoalaaGreat.mass, val_ofD]⟩
theorem Ints.goodP {M : Nat} {ts : List TermD} (h : Ints M ts) (hM : M < 4611686018427387904) : GoodP ts := h.1.good h.2 (Nat.lt_of_le_of_lt h.3 hM)
theorem Ints.perm {M : Nat} {a b : List TermD} (h : Ints M a) (hp : a.Perm b) : Ints M b :=
 ⟨fun s hs => h.1 s (hp.mem_iff.2 hs), fun s hs => h.2 s (hp.mem_iff.2 hs), by rw [← mass_perm hp]; exact h.3⟩
structure SumOk (o : Int) (M : Nat) (ts : List TermD) : Prop where
 make : polMake o ts = if 60 < (polSum o ts).length then (90, []) else (0, polSum o ts)
 canon : Canon o (polSum o ts)
 ints : Ints M (polSum o ts)
 lin : ∀ f, lin f (polSum o ts) = lin f ts
 mem : ∀ s ∈ polSum o ts, ∃ r ∈ ts, r.m = s.m
theorem sum_ok {o : Int} {M : Nat} {ts : List TermD} (ho : oOk o) (h : Ints M ts) (hM : M < 4611686018427387904) : SumOk o M ts := by
 have hg := h.goodP hM
 obtain ⟨b1, b2, b3, b4⟩ := putAll_int ts [] (.nil ho) .nil h.2 h.1 (by simp only [mass]; have := h.3; omega)
 obtain ⟨c1, c2, c3⟩ := putAll_ok ts [] (.nil ho) .nil hg b1
 have hcan := canon_nz c1 c2
 refine ⟨?_, hcan, ⟨fun t ht => b2 t (List.mem_filter.1 ht).1, fun t ht => (hcan.good t ht).m, ?_⟩, fun f => ?_, fun s hs => ?_⟩
 ·unfold polMake
  have hodd : anyOdd ts = false := by
   unfold anyOdd
   rw [List.any_eq_false]
   intro t ht
   rw [(hg t ht).right]; simp
  rw [hodd, ordered_ok.2 ho, if_neg (by simp), if_neg (by simpa using b1)]
  rfl
 ·refine Nat.le_trans (mass_filter _ _) (Nat.le_trans b3 ?_)
  simp only [mass]
  have := h.3
  omega
 ·unfold polSum
  rw [lin_nz f c2, c3]
  simp only [Proofs.YtgjkgkgieeoalaaGreat.lin]
  grind
 ·rcases b4 s (List.mem_filter.1 hs).1 with h | ⟨r, hr, _⟩
  ·exact h
  ·cases hr
theorem SumOk.ext {o : Int} {M N : Nat} {a b : List TermD} (h : SumOk o M a) (h' : SumOk o N b) (e : ∀ f, Proofs.YtgjkgkgieeoalaaGreat.lin f a = Proofs.YtgjkgkgieeoalaaGreat.lin f b) : polSum o a = polSum o b :=
 canon_ext h.canon h'.canon fun f => by rw [h.lin, h'.lin, e]
theorem SumOk.eq {o : Int} {M : Nat} {a p : List TermD} (h : SumOk o M a) (hp : Canon o p) (e : ∀ f, Proofs.YtgjkgkgieeoalaaGreat.lin f a = Proofs.YtgjkgkgieeoalaaGreat.lin f p) (hl : p.length ≤ 60) : polMake o a = (0, p) := by
 have : polSum o a = p := canon_ext h.canon hp fun f => by rw [h.lin, e]
 rw [h.make, this, if_neg (by omega)]
theorem canon_may {o : Int} {p : List TermD} (h : Canon o p) (hl : p.length ≤ 60) : polMay o p = true := by
 unfold polMay
 rw [Bool.and_eq_true, List.all_eq_true]
 refine ⟨fun i hi => ?_, by rw [ordered_ok.2 h.sta.ord, decide_eq_true hl]; rfl⟩
 have hi := List.mem_range.1 hi
 have hget : p[i]? = some p[i] := List.getElem?_eq_getElem hi
 have hmem : p[i] ∈ p := List.getElem_mem hi
 rw [okAt_of hget, (h.good _ hmem).c.may, (h.good _ hmem).m]
 have hz := h.nz _ hmem
 unfold nz at hz
 rw [hz]
 by_cases h0 : i = 0
 ·simp [h0]
 ·have : 0 < monCmp o (p.getD (i - 1) tz).m p[i].m := by
    rw [List.getD_eq_getElem?_getD, List.getElem?_eq_getElem (by omega)]
    exact (List.pairwise_iff_getElem.1 h.sta.fall) (i - 1) i (by omega) hi (by omega)
  rw [decide_eq_true this]; simp
theorem polAdd_int {o : Int} {ps : List (List TermD)} (h : ∀ p ∈ ps, Canon o p ∧ p.length ≤ 60) : polAdd o ps = polMake o ps.flatten := by
 unfold polAdd
 rw [show ps.all (polMay o) = true by rw [List.all_eq_true]; exact fun p hp => canon_may (h p hp).1 (h p hp).2, if_neg (by simp)]
def mulT (s t : TermD) : TermD := ⟨(mulD s.c t.c).2, addM s.m t.m⟩
def prods (p q : List TermD) : List TermD := q.flatMap fun t => p.map fun s => mulT s t
def Fits (p : List TermD) (m : MonD) : Prop := ∀ s ∈ p, monMay (addM s.m m) = true
theorem timesL_int {t : TermD} (ht : ∃ n : Int, t.c = ofD n) (hm : monMay t.m = true) (h9 : val t.c.num < 4294967296) : ∀ {p : List TermD}, IntP p → GoodM p → Fits p t.m → mass p < 4294967296 → timesL t p = (0, p.map fun s => mulT s t)
 | [], _, _, _, _ => rfl
 | s :: r, hi, hg, hf, h8 => by
   simp only [mass] at h8
   have ih := timesL_int ht hm h9 hi.tl (fun x hx => hg x (by simp [hx])) (fun x hx => hf x (by simp [hx])) (by omega)
   obtain ⟨b, eb⟩ := ht
   obtain ⟨a, ea⟩ := hi.hd
   have vb := val_ofD b
   have va := val_ofD a
   rw [← eb] at vb
   rw [← ea] at va
   have e1 : mulD s.c t.c = (0, ofD (a * b)) := by rw [ea, eb]; exact mulD_int (by omega) (by omega)
   have e2 : monMul s.m t.m = (0, addM s.m t.m) := by
    unfold monMul
    rw [hg s (by simp), hm, hf s (by simp)]; rfl
   unfold timesL
   rw [ih, e1, e2]
   simp [mulT, e1]
theorem qv_mulT {s t : TermD} (hs : ∃ n : Int, s.c = ofD n) (ht : ∃ n : Int, t.c = ofD n) (h9 : val t.c.num < 4294967296) (h8 : val s.c.num < 4294967296) :
    (∃ n : Int, (mulT s t).c = ofD n) ∧ qv (mulT s t).c = qv s.c * qv t.c ∧ val (mulT s t).c.num = val s.c.num * val t.c.num := by
 obtain ⟨b, eb⟩ := ht
 obtain ⟨a, ea⟩ := hs
 have vb := val_ofD b
 have va := val_ofD a
 rw [← eb] at vb
 rw [← ea] at va
 have e1 : (mulT s t).c = ofD (a * b) := by
  unfold mulT
  rw [ea, eb, mulD_int (by omega) (by omega)]
 refine ⟨⟨_, e1⟩, ?_, ?_⟩
 ·rw [e1, ea, eb, qv_ofD, qv_ofD, qv_ofD, Rat.intCast_mul]
 ·rw [e1, val_ofD, va, vb, Int.natAbs_mul]
theorem lin_times {t : TermD} (ht : ∃ n : Int, t.c = ofD n) (h9 : val t.c.num < 4294967296) (f : MonD → Rat) : ∀ {p : List TermD}, IntP p → mass p < 4294967296 →
    lin f (p.map fun s => mulT s t) = qv t.c * lin (fun m => f (addM m t.m)) p
 | [], _, _ => by simp only [List.map_nil, lin]; grind
 | s :: r, hi, h8 => by
   simp only [mass] at h8
   have ih := lin_times ht h9 f hi.tl (by omega)
   simp only [List.map_cons, lin, ih]
   rw [(qv_mulT hi.hd ht h9 (by omega)).2.1]
   show qv s.c * qv t.c * f (addM s.m t.m) + _ = _
   grind
theorem mass_times {t : TermD} (ht : ∃ n : Int, t.c = ofD n) (h9 : val t.c.num < 4294967296) : ∀ {p : List TermD}, IntP p → mass p < 4294967296 → mass (p.map fun s => mulT s t) = mass p * val t.c.num ∧ IntP (p.map fun s => mulT s t)
 | [], _, _ => ⟨by simp [mass], .nil⟩
 | s :: r, hi, h8 => by
   simp only [mass] at h8
   obtain ⟨ih, ih2⟩ := mass_times ht h9 hi.tl (by omega)
   obtain ⟨h1, _, h3⟩ := qv_mulT hi.hd ht h9 (by omega)
   refine ⟨?_, .cons h1 ih2⟩
   simp only [List.map_cons, mass, ih, h3]
   rw [Nat.add_mul]
theorem prods_ints {p : List TermD} {M : Nat} (hp : Ints M p) (hM : M < 4294967296) : ∀ {q : List TermD} {N : Nat}, Ints N q → N < 4294967296 → (∀ t ∈ q, Fits p t.m) → Ints (M * N) (prods p q)
 | [], N, _, _, _ => Ints.nil.le (Nat.zero_le _)
 | t :: q, N, hq, hN, hf => by
   have hm := hq.mass
   simp only [Proofs.YtgjkgkgieeoalaaGreat.mass] at hm
   have hpm := hp.mass
   have h1 := mass_times (t := t) hq.int.hd (by omega) hp.int (by omega)
   have ih := prods_ints hp hM (q := q) (N := N - val t.c.num) ⟨hq.int.tl, fun s hs => hq.good s (by simp [hs]), by omega⟩ (by omega) (fun s hs => hf s (by simp [hs]))
   have : Ints (M * val t.c.num) (p.map fun s => mulT s t) := ⟨h1.2, fun s hs => by
    obtain ⟨r, hr, e⟩ := List.mem_map.1 hs
    rw [← e]
    exact hf t (by simp) r hr, by rw [h1.1]; exact Nat.mul_le_mul_right _ hpm⟩
   have hh := this.app ih
   rw [← Nat.mul_add, show val t.c.num + (N - val t.c.num) = N by omega] at hh
   exact hh
theorem lin_prods {p : List TermD} {M : Nat} (hp : Ints M p) (hM : M < 4294967296) (f : MonD → Rat) : ∀ {q : List TermD} {N : Nat}, Ints N q → N < 4294967296 → lin f (prods p q) = lin (fun m' => lin (fun m => f (addM m m')) p) q
 | [], N, _, _ => rfl
 | t :: q, N, hq, hN => by
   have hm := hq.mass
   simp only [mass] at hm
   have hpm := hp.mass
   have ih := lin_prods hp hM f (q := q) (N := N) ⟨hq.int.tl, fun s hs => hq.good s (by simp [hs]), by omega⟩ hN
   show lin f ((p.map fun s => mulT s t) ++ prods p q) = _
   rw [lin_app, ih, lin_times hq.int.hd (by omega) f hp.int (by omega)]
   rfl
theorem addM_comm (a b : MonD) : addM a b = addM b a := by
 unfold addM
 rw [Int.add_comm a.x0, Int.add_comm a.x1, Int.add_comm a.x2, Int.add_comm a.x3]
structure Pol (o : Int) (M : Nat) (p : List TermD) : Prop where
 ints : Ints M p
 canon : Canon o p
 len : p.length ≤ 60
theorem Pol.may {o : Int} {M : Nat} {p : List TermD} (h : Pol o M p) : polMay o p = true := canon_may h.canon h.len
theorem SumOk.pol {o : Int} {M : Nat} {ts : List TermD} (h : SumOk o M ts) (hl : (polMake o ts).1 = 0) : Pol o M (polMake o ts).2 ∧ polMake o ts = (0, polSum o ts) := by
 have h1 := h.make
 split at h1
 ·rw [h1] at hl; cases hl
 ·rename_i h6
  rw [h1]
  exact ⟨⟨h.ints, h.canon, Nat.le_of_not_lt h6⟩, rfl⟩
theorem polTimes_int {o : Int} {M : Nat} {p : List TermD} {t : TermD} (hp : Pol o M p) (hM : M < 4294967296) (ht : ∃ n : Int, t.c = ofD n) (hm : monMay t.m = true) (h9 : val t.c.num < 4294967296) (hf : Fits p t.m) (hz : nz t = true) :
    polTimes o p t = (0, p.map fun s => mulT s t) := by
 unfold polTimes
 obtain ⟨b, eb⟩ := ht
 have vb := val_ofD b
 rw [← eb] at vb
 have hr : right t = true := GoodT.right ⟨by rw [eb]; exact ofD_small (by omega), hm⟩
 unfold nz at hz
 rw [hp.may, hr, if_neg (by simp), if_neg (by simpa using hz)]
 exact timesL_int ⟨b, eb⟩ hm h9 hp.ints.int hp.ints.good hf (Nat.lt_of_le_of_lt hp.ints.mass hM)
theorem mulC_int {o : Int} {M : Nat} {p : List TermD} (hp : Pol o M p) (hM : M < 4294967296) : ∀ {q : List TermD} {N : Nat}, Ints N q → N < 4294967296 → (∀ t ∈ q, nz t = true) → (∀ t ∈ q, Fits p t.m) → mulC o p q = (0, prods p q)
 | [], N, _, _, _, _ => rfl
 | t :: q, N, hq, hN, hz, hf => by
   have hm := hq.mass
   simp only [mass] at hm
   have ih := mulC_int hp hM (q := q) (N := N) ⟨hq.int.tl, fun s hs => hq.good s (by simp [hs]), by omega⟩ hN (fun s hs => hz s (by simp [hs])) (fun s hs => hf s (by simp [hs]))
   unfold mulC
   rw [polTimes_int hp hM hq.int.hd (hq.good t (by simp)) (by omega) (hf t (by simp)) (hz t (by simp)), ih]
   rfl
theorem polMul_int {o : Int} {M N : Nat} {p q : List TermD} (hp : Pol o M p) (hM : M < 4294967296) (hq : Pol o N q) (hN : N < 4294967296) (hf : ∀ t ∈ q, Fits p t.m) : polMul o p q = polMake o (prods p q) := by
 unfold polMul
 rw [hp.may, hq.may, mulC_int hp hM hq.ints hN hq.canon.nz hf]
 rfl
def Low (k : Int) (ts : List TermD) : Prop := ∀ t ∈ ts, (0 ≤ t.m.x0 ∧ t.m.x0 ≤ k) ∧ (0 ≤ t.m.x1 ∧ t.m.x1 ≤ k) ∧ (0 ≤ t.m.x2 ∧ t.m.x2 ≤ k) ∧ (0 ≤ t.m.x3 ∧ t.m.x3 ≤ k)
theorem monMay_low {m : MonD} (h : (0 ≤ m.x0 ∧ m.x0 ≤ 40) ∧ (0 ≤ m.x1 ∧ m.x1 ≤ 40) ∧ (0 ≤ m.x2 ∧ m.x2 ≤ 40) ∧ (0 ≤ m.x3 ∧ m.x3 ≤ 40)) : monMay m = true := by
 unfold monMay MonD.l
 simp only [List.any_cons, List.any_nil, badE]
 simp
 omega
theorem Low.fits {j k : Int} {p q : List TermD} (hp : Low j p) (hq : Low k q) (h : j + k ≤ 40) : ∀ t ∈ q, Fits p t.m := fun t ht s hs => by
 have h1 := hp s hs
 have h2 := hq t ht
 refine monMay_low ?_
 simp only [addM]
 omega
theorem Low.sum {k : Int} {o : Int} {M : Nat} {ts : List TermD} (h : Low k ts) (hs : SumOk o M ts) : Low k (polSum o ts) := fun t ht => by
 obtain ⟨r, hr, e⟩ := hs.mem t ht
 rw [← e]
 exact h r hr
theorem Low.prods {j k : Int} {p q : List TermD} (hp : Low j p) (hq : Low k q) : Low (j + k) (prods p q) := fun t ht => by
 unfold Proofs.YtgjkgkgieeoalaaGreat.prods at ht
 obtain ⟨u, hu, ht⟩ := List.mem_flatMap.1 ht
 obtain ⟨s, hs, e⟩ := List.mem_map.1 ht
 have h1 := hp s hs
 have h2 := hq u hu
 rw [← e]
 simp only [mulT, addM]
 omega
theorem Low.app {k : Int} {a b : List TermD} (h : Low k a) (h' : Low k b) : Low k (a ++ b) := fun s hs => (List.mem_append.1 hs).elim (h s) (h' s)
theorem putD_size (o : Int) (al : List TermD) (t : TermD) : (putD o al t).2.length ≤ al.length + 1 := by
 unfold putD
 split
 ·split
  ·simp
  ·simp [setM]
 ·rw [(insD_perm o t al).length_eq]; simp
theorem putAll_size (o : Int) : ∀ (ts al : List TermD), (putAll o al ts).2.length ≤ al.length + ts.length
 | [], al => by simp [putAll]
 | t :: ts, al => by
   unfold putAll
   split
   ·simp
   ·have h1 := putAll_size o ts (putD o al t).2
    have h2 := putD_size o al t
    simp only [List.length_cons]
    omega
theorem polSum_len (o : Int) (ts : List TermD) : (polSum o ts).length ≤ ts.length := by
 unfold polSum
 have h1 := putAll_size o ts []
 have h2 := List.length_filter_le nz (putAll o [] ts).2
 simp only [List.length_nil] at h1
 omega
structure Sm (ts : List TermD) : Prop where
 ints : Ints 1280 ts
 low : Low 3 ts
 len : ts.length ≤ 10
structure SmP (o : Int) (p : List TermD) : Prop where
 pol : Pol o 1280 p
 low : Low 3 p
 len : p.length ≤ 10
theorem Sm.make {o : Int} (ho : oOk o) {ts : List TermD} (h : Sm ts) : SmP o (polMake o ts).2 ∧ (polMake o ts).1 = 0 := by
 have hs := sum_ok ho h.ints (by decide)
 have hl := polSum_len o ts
 have h10 := h.len
 have e : polMake o ts = (0, polSum o ts) := by rw [hs.make, if_neg (by omega)]
 obtain ⟨h1, _⟩ := hs.pol (by rw [e])
 rw [e] at h1 ⊢
 exact ⟨⟨h1, h.low.sum hs, by show (polSum o ts).length ≤ 10; omega⟩, rfl⟩
theorem SmP.fits {o : Int} {p q : List TermD} (hp : SmP o p) (hq : SmP o q) : ∀ t ∈ q, Fits p t.m := hp.low.fits hq.low (by decide)
section
variable {o : Int} {p q r : List TermD}
theorem prods_sum (hp : SmP o p) (hq : SmP o q) : SumOk o (1280 * 1280) (prods p q) ∧ polMul o p q = polMake o (prods p q) :=
 ⟨sum_ok hp.pol.canon.sta.ord (prods_ints hp.pol.ints (by decide) hq.pol.ints (by decide) (hp.fits hq)) (by decide), polMul_int hp.pol (by decide) hq.pol (by decide) (hp.fits hq)⟩
theorem zero_add (hp : SmP o p) : polAdd o [p, [], []] = (0, p) := by
 have ho := hp.pol.canon.sta.ord
 rw [polAdd_int (by simp [hp.pol.canon, hp.pol.len, canon_nil ho]), show [p, [], []].flatten = p by simp]
 exact (sum_ok ho hp.pol.ints (by decide)).eq hp.pol.canon (fun f => rfl) hp.pol.len
theorem zero_mul (hp : SmP o p) : polMul o p [] = (0, []) := by
 have ho := hp.pol.canon.sta.ord
 unfold polMul
 rw [hp.pol.may, canon_may (canon_nil ho) (by simp)]
 exact (sum_ok ho Ints.nil (by decide)).eq (canon_nil ho) (fun f => rfl) (by simp)
theorem addM_zero (m : MonD) : addM m zeroM = m := by unfold addM zeroM; simp
theorem monMay_zero : monMay zeroM = true := by decide
end
end Go.Proofs.YtgjkgkgieeoalaaGreat
namespace Go.Proofs.YtgjkgkgieeoalaaGreat
open Go.RowKit
def flat3 (ms : List (Int × Int × Int)) : List Value := ms.flatMap fun m => [.int .u8 m.1, .int .u8 m.2.1, .int .u8 m.2.2]
structure RSm (w : World) (A : Option Addr) (c : Nat) (B : Option Addr) (d : Nat) (ns : List Int) (ms : List (Int × Int × Int)) : Prop where
 n : Rd w w.heap.size 1 A ns.length (ints .i8 ns)
 m : Rd w w.heap.size 3 B ms.length (flat3 ms)
 nc : ns.length ≤ c
 md : ms.length ≤ d
 nb : ∀ x ∈ ns, -128 ≤ x ∧ x ≤ 127
 mb : ∀ x ∈ ms, (0 ≤ x.1 ∧ x.1 ≤ 255) ∧ (0 ≤ x.2.1 ∧ x.2.1 ≤ 255) ∧ (0 ≤ x.2.2 ∧ x.2.2 ≤ 255)
section
variable {P : Program} {ops : Array Oper} {Q : Exit → Act → World → Prop} {md : Region.Mode} {S : World → Prop} {n : Nat}
def wpAnyX (P : Program) (md : Region.Mode) (ops : Array Oper) (Q : Exit → Act → World → Prop) (S : World → Prop) (n : Nat) : Nat → Array Bool → Act → World → Prop
 | 0, listed, a, w => Region.ready md ops listed = [] ∧ Q .normal a w
 | fuel + 1, listed, a, w => (Region.ready md ops listed = [] → Q .normal a w) ∧
   ∀ i ∈ Region.ready md ops listed, wpOp P ops Q i (fun a' w' => (i < n → S w') ∧ wpAnyX P md ops Q S n fuel (listed.setIfInBounds i true) a' w') a w
theorem wpAny_of_X : ∀ (fuel : Nat) (listed : Array Bool) (a : Act) (w : World), wpAnyX P md ops Q S n fuel listed a w → wpAny P md ops Q fuel listed a w
 | 0, _, _, _, h => h
 | fuel + 1, _, _, _, h => ⟨h.1, fun i hi => wpOp_mono (fun a' w' h' => wpAny_of_X fuel _ a' w' h'.2) (h.2 i hi)⟩
theorem wpAnyX_first {i : Nat} {oi : Oper} {v : Value} (hi : ops[i]? = some oi) (hsel : ∀ (j : Nat) (o : Oper) cs b, ops[j]? = some o → o.op ≠ .select cs b)
    (hQ : ∀ c a w, Q (.panic c) (a.put oi.dst v) w → Q (.panic c) a w) (hwait : ∀ j, n ≤ j → j < ops.size → Region.waitsFor md ops j i = true) :
    ∀ (fuel : Nat) (listed : Array Bool) (a : Act) (w : World),
     (∀ j oj, ops[j]? = some oj → j ≠ i → listed.getD j true = false → (∀ e ∈ oj.after, Region.binds md e = true → e.on ≠ i) → oi.apart ops oj = true) →
     i ∈ Region.ready md ops listed → YieldsIf P ops S oi v a → S w →
     wpAnyX P md ops Q S n fuel (listed.setIfInBounds i true) (a.put oi.dst v) w → wpAnyX P md ops Q S n (fuel + 1) listed a w := by
 intro fuel
 induction fuel with
 | zero =>
   intro listed a w _ hr hy hS H
   refine ⟨fun h => (by rw [h] at hr; cases hr), fun j hj => ?_⟩
   by_cases hji : j = i
   ·subst hji; exact hy.wpOp hi hS ⟨fun _ => hS, H⟩
   ·have := ready_mono hj hji
    rw [H.1] at this
    cases this
 | succ fuel ih =>
   intro listed a w hfree hr hy hS H
   refine ⟨fun h => (by rw [h] at hr; cases hr), fun j hj => ?_⟩
   by_cases hji : j = i
   ·subst hji; exact hy.wpOp hi hS ⟨fun _ => hS, H⟩
   ·have h1 := H.2 j (ready_mono hj hji)
    obtain ⟨hjun, oj, hoj, hall⟩ := mem_ready.1 hj
    have hnot : ∀ e ∈ oj.after, Region.binds md e = true → e.on ≠ i := fun e he hb heq => by
     have h1 := hall e he hb
     have h0 := (mem_ready.1 hr).1
     rw [heq] at h1
     rcases Nat.lt_or_ge i listed.size with h' | h'
     ·simp [h'] at h0 h1; rw [h0] at h1; cases h1
     ·simp [Array.getElem?_eq_none h'] at h1
    have hjn : j < n := by
     rcases Nat.lt_or_ge j n with h' | h'
     ·exact h'
     ·obtain ⟨oj', hoj', e, he, hb, hon⟩ := Region.waitsFor_spec (hwait j h' (Array.getElem?_eq_some_iff.1 hoj).1)
      rw [hoj] at hoj'
      injection hoj' with hoj'
      subst hoj'
      exact absurd hon (hnot e he hb)
    have h2 := wpOp_putIf hoj (hfree j oj hoj hji hjun hnot) (fun cs b => hsel i oi cs b hi) (fun cs b => hsel j oj cs b hoj) hQ hy h1
    have hfree' : ∀ k ok, ops[k]? = some ok → k ≠ i → (listed.setIfInBounds j true).getD k true = false →
        (∀ e ∈ ok.after, Region.binds md e = true → e.on ≠ i) → oi.apart ops ok = true := fun k ok hk hki hun hno => by
     refine hfree k ok hk hki ?_ hno
     by_cases hjk : j = k
     ·subst hjk; exact hjun
     ·rw [getD_set_ne true hjk] at hun; exact hun
    refine wpOp_mono (fun a' w' h3 => ⟨h3.2.1, ih (listed.setIfInBounds j true) a' w' hfree' (ready_mono hr (Ne.symm hji)) h3.1 (h3.2.1 hjn) ?_⟩) h2
    rw [Array.setIfInBounds_comm _ _ hji]
    exact h3.2.2
def wpHead (P : Program) (ops : Array Oper) (S : World → Prop) (K : Act → Prop) : List Oper → Act → Prop
 | [], a => K a
 | o :: rest, a => ∃ v, YieldsIf P ops S o v a ∧ wpHead P ops S K rest (a.put o.dst v)
theorem wpHead_nil {K : Act → Prop} {a : Act} (h : K a) : wpHead P ops S K [] a := h
def wpTail (P : Program) (ops : Array Oper) (Q : Exit → Act → World → Prop) (S : World → Prop) (n : Nat) : Nat → List Oper → Act → World → Prop
 | _, [], a, w => Q .normal a w
 | k, o :: rest, a, w => if Region.wanted o (yielded ops a.tmps) = true then o.wp P a w (fun a' w' => (k < n → S w') ∧ wpTail P ops Q S n (k + 1) rest a' w') Q else (k < n → S w) ∧ wpTail P ops Q S n (k + 1) rest (a.put o.dst undef) w
theorem wpTail_nil {k : Nat} {a : Act} {w : World} (h : Q .normal a w) : wpTail P ops Q S n k [] a w := h
theorem wpTail_step {k : Nat} {o : Oper} {rest : List Oper} {a : Act} {w : World}
    (h : ∀ K : Act → World → Prop, (∀ a' w', (k < n → S w') → wpTail P ops Q S n (k + 1) rest a' w' → K a' w') → if Region.wanted o (yielded ops a.tmps) = true then o.wp P a w K Q else K (a.put o.dst undef) w) : wpTail P ops Q S n k (o :: rest) a w :=
 h _ fun _ _ h1 h2 => ⟨h1, h2⟩
theorem wpAnyX_seq : ∀ (l : List Oper) (k : Nat) (listed : Array Bool) (a : Act) (w : World), (∀ j, l[j]? = ops[k + j]?) → Region.seqB md ops l.length k listed = true → wpTail P ops Q S n k l a w → wpAnyX P md ops Q S n l.length listed a w
 | [], _, _, _, _, _, hB, h => ⟨by simpa [Region.seqB] using hB, h⟩
 | o :: l, k, listed, a, w, hl, hB, h => by
   have h0 : ops[k]? = some o := by simpa using (hl 0).symm
   simp only [List.length_cons, Region.seqB, Bool.and_eq_true, decide_eq_true_eq] at hB
   refine ⟨fun h1 => (by rw [hB.1] at h1; cases h1), fun i hi => ?_⟩
   rw [hB.1] at hi
   have hik : i = k := by simpa using hi
   subst hik
   have hw : wpOp P ops Q i (fun a' w' => (i < n → S w') ∧ wpTail P ops Q S n (i + 1) l a' w') a w := by
    have h' : (if Region.wanted o (yielded ops a.tmps) = true then o.wp P a w (fun a' w' => (i < n → S w') ∧ wpTail P ops Q S n (i + 1) l a' w') Q else (i < n → S w) ∧ wpTail P ops Q S n (i + 1) l (a.put o.dst undef) w) := h
    unfold wpOp
    simp only [h0]
    split
    ·rename_i hw; rw [if_pos hw] at h'; exact .inl h'
    ·rename_i hw; rw [if_neg hw] at h'; exact h'
   exact wpOp_mono (fun a' w' h' => ⟨h'.1, wpAnyX_seq l (i + 1) _ a' w' (fun j => by have := hl (j + 1); simpa [Nat.add_assoc, Nat.add_comm 1 j] using this) hB.2 h'.2⟩) hw
theorem wpAnyX_head {tail : List Oper} (hs : Region.noSelect ops = true) (hQ : ∀ c a d v w, Q (.panic c) (a.put d v) w → Q (.panic c) a w) (m : Nat) (hwait : ∀ i, i < m → ∀ j, n ≤ j → j < ops.size → Region.waitsFor md ops j i = true) (htl : ∀ j, tail[j]? = ops[m + j]?) :
    ∀ (l : List Oper) (k : Nat) (listed : Array Bool) (a : Act) (w : World), k + l.length = m → (∀ j, j < l.length → l[j]? = ops[k + j]?) → S w → Region.lexHead md ops tail.length l.length k listed = true →
     wpHead P ops S (fun a' => wpTail P ops Q S n m tail a' w) l a → wpAnyX P md ops Q S n (tail.length + l.length) listed a w
 | [], k, listed, a, w, hk, _, _, hB, h => by
   have : k = m := by simpa using hk
   subst this
   exact wpAnyX_seq tail k listed a w htl (by simpa [Region.lexHead] using hB) h
 | o :: l, k, listed, a, w, hk, hl, hS, hB, h => by
   have h0 : ops[k]? = some o := by simpa using (hl 0 (by simp)).symm
   simp only [List.length_cons, Region.lexHead, Bool.and_eq_true] at hB
   obtain ⟨⟨hr, hf⟩, hB'⟩ := hB
   obtain ⟨v, hy, hK⟩ := h
   have hkm : k < m := by simp only [List.length_cons] at hk; omega
   refine wpAnyX_first h0 (Region.noSelect_spec hs) (fun c a w h => hQ c a _ _ w h) (hwait k hkm) (tail.length + l.length) listed a w (Region.free_spec h0 hf) (by simpa using hr) hy hS ?_
   exact wpAnyX_head hs hQ m hwait htl l (k + 1) _ _ w (by simp only [List.length_cons] at hk; omega) (fun j hj => by have := hl (j + 1) (by simp; omega); simpa [Nat.add_assoc, Nat.add_comm 1 j] using this) hS hB' hK
def headB (ops : Array Oper) (m n : Nat) : Bool :=
 Region.noSelect ops && decide (m ≤ ops.size) && ((List.range m).all fun i => (List.range ops.size).all fun j => decide (j < n) || Region.waitsFor .any ops j i) && Region.lexHead .any ops (ops.size - m) m 0 (Array.replicate ops.size false)
theorem wp_region_head {id : Nat} {a : Act} {w : World} {l : List Oper} (m n : Nat) (S : World → Prop) (hm : P.follows .mixedOrders = true) (hB : headB l.toArray m n = true) (hQ : ∀ c a d v w, Q (.panic c) (a.put d v) w → Q (.panic c) a w) (hS : S w.drew)
    (h : wpHead P l.toArray S (fun a' => wpTail P l.toArray Q S n m (l.drop m) a' w.drew) (l.take m) a) : (Code.region id l.toArray true).wp P Q a w := by
 unfold headB at hB
 simp only [Bool.and_eq_true, decide_eq_true_eq] at hB
 obtain ⟨⟨⟨hsel, hms⟩, hwt⟩, hlex⟩ := hB
 have hms' : m ≤ l.length := by simpa using hms
 have htk : (l.take m).length = m := by rw [List.length_take]; omega
 have hdr : (l.drop m).length = l.toArray.size - m := by simp
 refine wp_region_any hm (wpAny_of_X (S := S) (n := n) _ _ _ _ ?_)
 have hwait : ∀ i, i < m → ∀ j, n ≤ j → j < l.toArray.size → Region.waitsFor .any l.toArray j i = true := fun i hi j hj hjs => by
  have h1 := List.all_eq_true.1 (List.all_eq_true.1 hwt i (List.mem_range.2 hi)) j (List.mem_range.2 hjs)
  simp only [Bool.or_eq_true, decide_eq_true_eq] at h1
  exact h1.resolve_left (by omega)
 have := wpAnyX_head (P := P) (Q := Q) (md := .any) (S := S) (n := n) (tail := l.drop m) hsel hQ m hwait (fun j => by simp [List.getElem?_drop]) (l.take m) 0 (Array.replicate l.toArray.size false) a w.drew (by rw [htk, Nat.zero_add])
  (fun j hj => by rw [htk] at hj; simp [hj]) hS (by rw [hdr, htk]; exact hlex) h
 rw [hdr, htk, show l.toArray.size - m + m = l.toArray.size by omega] at this
 exact this
end
section
variable {P : Program} {ops : Array Oper} {Q : Exit → Act → World → Prop} {md : Region.Mode} {n : Nat}
theorem wpAnyX_true : ∀ (fuel : Nat) (listed : Array Bool) (a : Act) (w : World), wpAny P md ops Q fuel listed a w → wpAnyX P md ops Q (fun _ => True) n fuel listed a w
 | 0, _, _, _, h => h
 | fuel + 1, _, _, _, h => ⟨h.1, fun i hi => wpOp_mono (fun a' w' h' => ⟨fun _ => trivial, wpAnyX_true fuel _ a' w' h'⟩) (h.2 i hi)⟩
def midB (ops : Array Oper) : Bool :=
 let l0 := Array.replicate ops.size false
 let l1 := l0.setIfInBounds 0 true
 let l2 := l1.setIfInBounds 2 true
 let l3 := l2.setIfInBounds 1 true
 Region.noSelect ops && decide (3 ≤ ops.size) && Region.free .any ops l0 0 && (Region.ready .any ops l0).contains 0 && Region.free .any ops l1 2 && (Region.ready .any ops l1).contains 2 && decide (Region.ready .any ops l2 = [1]) && Region.lexFrom .any ops (ops.size - 3) 3 l3
theorem wp_region_mid {id : Nat} {a : Act} {w : World} {o0 o1 o2 : Oper} {l : List Oper} (hm : P.follows .mixedOrders = true) (hB : midB (o0 :: o1 :: o2 :: l).toArray = true) (hQ : ∀ c a d v w, Q (.panic c) (a.put d v) w → Q (.panic c) a w) (v0 v2 : Value) (hg : o1.guard = none)
    (h0 : YieldsIf P (o0 :: o1 :: o2 :: l).toArray (fun _ => True) o0 v0 a) (h2 : YieldsIf P (o0 :: o1 :: o2 :: l).toArray (fun _ => True) o2 v2 (a.put o0.dst v0))
    (h1 : ∀ K : Act → World → Prop, (∀ a' w', (∃ C : World → Prop, C w' ∧ wpQuiet P (o0 :: o1 :: o2 :: l).toArray C (fun a'' => ∀ w'', C w'' → Q .normal a'' w'') l a') → K a' w') → o1.wp P ((a.put o0.dst v0).put o2.dst v2) w.drew K Q) :
    (Code.region id (o0 :: o1 :: o2 :: l).toArray true).wp P Q a w := by
 unfold midB at hB
 simp only [Bool.and_eq_true, decide_eq_true_eq, List.contains_iff_mem] at hB
 obtain ⟨⟨⟨⟨⟨⟨⟨hsel, hsz⟩, f0⟩, r0⟩, f2⟩, r2⟩, r1⟩, hlex⟩ := hB
 have hsize : (o0 :: o1 :: o2 :: l).toArray.size = l.length + 3 := by simp
 refine wp_region_any hm (wpAny_of_X (S := fun _ => True) (n := (o0 :: o1 :: o2 :: l).toArray.size) _ _ _ _ ?_)
 have e0 : (o0 :: o1 :: o2 :: l).toArray[0]? = some o0 := by simp
 have e1 : (o0 :: o1 :: o2 :: l).toArray[1]? = some o1 := by simp
 have e2 : (o0 :: o1 :: o2 :: l).toArray[2]? = some o2 := by simp
 refine (show wpAnyX P _ _ _ _ _ (l.length + 3) _ _ _ from ?_)
 refine wpAnyX_first e0 (Region.noSelect_spec hsel) (fun c a w h => hQ c a _ _ w h) (fun j hj hj2 => absurd hj2 (Nat.not_lt.2 hj)) (l.length + 2) _ a w.drew (Region.free_spec e0 f0) r0 h0 trivial ?_
 refine wpAnyX_first e2 (Region.noSelect_spec hsel) (fun c a w h => hQ c a _ _ w h) (fun j hj hj2 => absurd hj2 (Nat.not_lt.2 hj)) (l.length + 1) _ _ _ (Region.free_spec e2 f2) r2 h2 trivial ?_
 refine wpAnyX_true _ _ _ _ ⟨fun h => (by rw [r1] at h; cases h), fun i hi => ?_⟩
 rw [r1, List.mem_singleton] at hi
 subst hi
 unfold wpOp
 simp only [e1, Region.wanted, hg, if_true]
 refine .inl (h1 _ fun a' w' hC => ?_)
 obtain ⟨C, hw, hq⟩ := hC
 refine wpAny_of_quiet (C := C) (Q := fun a'' => ∀ w'', C w'' → Q .normal a'' w'') (fun a'' w'' hw'' h => h w'' hw'') _ _ _ _ hw ?_
 exact wpAnyQ_lex hsel l 3 _ _ (fun j => by simp [Nat.add_comm 3 j]) (by simpa using hlex) hq
end
end Go.Proofs.YtgjkgkgieeoalaaGreat
