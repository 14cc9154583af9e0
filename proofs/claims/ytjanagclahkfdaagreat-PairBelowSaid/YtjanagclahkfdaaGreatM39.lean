/- Parts of the proof, joined: what each says stands at its head. -/
import Derived.Test.YtjanagclahkfdaaGreatM26
import Derived.Test.YtjanagclahkfdaaGreatM23
import Derived.Test.YtjanagclahkfdaaGreatM21
import Derived.Test.YtjanagclahkfdaaGreatM27
import Derived.Test.YtjanagclahkfdaaGreatM24
import Derived.Test.YtjanagclahkfdaaGreatM28
set_option linter.unusedVariables false
set_option linter.unusedSimpArgs false
set_option maxHeartbeats 24000000
set_option maxRecDepth 100000
namespace Go.Proofs.YtjanagclahkfdaaGreat
def IntP (ts : List TermD) : Prop := ∀ t ∈ ts, ∃ n : Int, t.c = ofD n
def mass : List TermD → Nat
 | [] => 0
 | t :: ts => val t.c.num + mass ts
theorem val_ofD (n : Int) : val (ofD n).num = n.natAbs := val_limbs _
theorem mass_app (a b : List TermD) : mass (a ++ b) = mass a + mass b := by
 induction a with
 | nil => simp [mass]
 | cons t a ih => simp only [List.cons_append, mass, ih]; omega
theorem mass_perm {a b : List TermD} (h : a.Perm b) : mass a = mass b := by
 induction h with
 | nil => rfl
 | cons t _ ih => simp only [mass, ih]
 | swap s t l => simp only [mass]; omega
 | trans _ _ h1 h2 => exact h1.trans h2
theorem mass_filter (p : TermD → Bool) (ts : List TermD) : mass (ts.filter p) ≤ mass ts := by
 induction ts with
 | nil => exact Nat.le_refl _
 | cons t ts ih =>
   rw [List.filter_cons]
   split
   ·simp only [mass]; omega
   ·simp only [mass]; omega
theorem mass_mem {ts : List TermD} {t : TermD} (h : t ∈ ts) : val t.c.num ≤ mass ts := by
 induction ts with
 | nil => cases h
 | cons s ts ih =>
   simp only [mass]
   rcases List.mem_cons.1 h with rfl | h
   ·omega
   ·have := ih h; omega
theorem mass_setM {al : List TermD} (hk : al.Pairwise fun p q => p.m ≠ q.m) {p : TermD} (hp : p ∈ al) (c : RatD) : mass (setM al p.m c) + val p.c.num = mass al + val c.num := by
 induction al with
 | nil => cases hp
 | cons q r ih =>
   obtain ⟨h1, h2⟩ := List.pairwise_cons.1 hk
   have e : setM (q :: r) p.m c = (if q.m = p.m then ⟨c, p.m⟩ else q) :: setM r p.m c := rfl
   rcases List.mem_cons.1 hp with rfl | hp
   ·rw [e, if_pos rfl, setM_far (fun s hs => fun h => h1 s hs h.symm)]
    simp only [mass]
    omega
   ·rw [e, if_neg (h1 p hp)]
    simp only [mass]
    have := ih h2 hp
    omega
theorem IntP.hd {t : TermD} {ts : List TermD} (h : IntP (t :: ts)) : ∃ n : Int, t.c = ofD n := h t (by simp)
theorem IntP.tl {t : TermD} {ts : List TermD} (h : IntP (t :: ts)) : IntP ts := fun s hs => h s (by simp [hs])
theorem IntP.nil : IntP [] := fun _ h => by cases h
theorem IntP.cons {t : TermD} {ts : List TermD} (h : ∃ n : Int, t.c = ofD n) (hs : IntP ts) : IntP (t :: ts) := fun s hm => by
 rcases List.mem_cons.1 hm with rfl | hm
 ·exact h
 ·exact hs s hm
theorem IntP.app {a b : List TermD} (h : IntP a) (h' : IntP b) : IntP (a ++ b) := fun s hm => by
 rcases List.mem_append.1 hm with hm | hm
 ·exact h s hm
 ·exact h' s hm
theorem IntP.good {ts : List TermD} (h : IntP ts) (hg : GoodM ts) (hm : mass ts < 4611686018427387904) : GoodP ts := fun t ht => by
 obtain ⟨n, e⟩ := h t ht
 have := mass_mem ht
 rw [e, val_ofD] at this
 exact ⟨by rw [e]; exact ofD_small (by omega), hg t ht⟩
theorem putD_int {o : Int} {al : List TermD} {t : TermD} (h : Sta o al) (hi : IntP al) (ht : ∃ n : Int, t.c = ofD n) (hm : mass al + val t.c.num < 4611686018427387904) :
    (putD o al t).1 = 0 ∧ IntP (putD o al t).2 ∧ mass (putD o al t).2 ≤ mass al + val t.c.num ∧ ∀ s ∈ (putD o al t).2, s.m = t.m ∨ ∃ r ∈ al, r.m = s.m := by
 obtain ⟨b, eb⟩ := ht
 have vb := val_ofD b
 rw [← eb] at vb
 unfold putD
 by_cases hh : hasM al t.m = true
 ·rw [if_pos hh]
  obtain ⟨p, hp, em, ec⟩ := getM_of hh
  obtain ⟨a, ea⟩ := hi p hp
  have va := val_ofD a
  rw [← ea] at va
  have hpm := mass_mem hp
  rw [ec, ea, eb, addD_int (by omega) (by omega)]
  simp only [ne_eq, not_true, if_false]
  refine ⟨trivial, fun s hs => ?_, ?_, fun s hs => ?_⟩
  ·rcases (mem_setM hh).1 hs with rfl | ⟨hs, _⟩
   ·exact ⟨_, rfl⟩
   ·exact hi s hs
  ·have := mass_setM h.keys hp (ofD (a + b))
   rw [em, val_ofD] at this
   rw [eb] at vb
   omega
  ·rcases (mem_setM hh).1 hs with rfl | ⟨hs, _⟩
   ·exact .inl rfl
   ·exact .inr ⟨s, hs, rfl⟩
 ·rw [if_neg hh]
  refine ⟨rfl, fun s hs => ?_, ?_, fun s hs => ?_⟩
  ·rcases mem_insD.1 hs with rfl | hs
   ·exact ⟨b, eb⟩
   ·exact hi s hs
  ·rw [mass_perm (insD_perm o t al)]
   simp only [mass]
   omega
  ·rcases mem_insD.1 hs with rfl | hs
   ·exact .inl rfl
   ·exact .inr ⟨s, hs, rfl⟩
theorem putAll_int {o : Int} : ∀ (ts al : List TermD), Sta o al → IntP al → GoodM ts → IntP ts → mass al + mass ts < 4611686018427387904 →
    (putAll o al ts).1 = 0 ∧ IntP (putAll o al ts).2 ∧ mass (putAll o al ts).2 ≤ mass al + mass ts ∧ ∀ s ∈ (putAll o al ts).2, (∃ r ∈ ts, r.m = s.m) ∨ ∃ r ∈ al, r.m = s.m
 | [], al, h, hi, _, _, _ => ⟨rfl, hi, by simp [putAll, mass], fun s hs => .inr ⟨s, hs, rfl⟩⟩
 | t :: ts, al, h, hi, hg, ht, hm => by
   simp only [mass] at hm
   obtain ⟨a1, a2, a3, a4⟩ := putD_int h hi ht.hd (by omega)
   unfold putAll
   rw [if_neg (by simpa using a1)]
   obtain ⟨b1, b2, b3, b4⟩ := putAll_int ts _ (h.putD (hg t (by simp)) a1) a2 (fun s hs => hg s (by simp [hs])) ht.tl (by omega)
   refine ⟨b1, b2, by simp only [mass]; omega, fun s hs => ?_⟩
   rcases b4 s hs with ⟨r, hr, e⟩ | ⟨r, hr, e⟩
   ·exact .inl ⟨r, by simp [hr], e⟩
   ·rcases a4 r hr with h' | ⟨q, hq, e'⟩
    ·exact .inl ⟨t, by simp, by rw [← e, h']⟩
    ·exact .inr ⟨q, hq, e'.trans e⟩
def polSum (o : Int) (ts : List TermD) : List TermD := (putAll o [] ts).2.filter nz
structure Ints (M : Nat) (ts : List TermD) : Prop where
 int : IntP ts
 good : GoodM ts
 mass : mass ts ≤ M
theorem Ints.nil : Ints 0 [] := ⟨.nil, (fun _ h => by cases h), Nat.le_refl _⟩
theorem Ints.le {M N : Nat} {ts : List TermD} (h : Ints M ts) (hn : M ≤ N) : Ints N ts := ⟨h.1, h.2, Nat.le_trans h.3 hn⟩
theorem Ints.app {M N : Nat} {a b : List TermD} (h : Ints M a) (h' : Ints N b) : Ints (M + N) (a ++ b) :=
 ⟨h.1.app h'.1, fun s hs => (List.mem_append.1 hs).elim (h.2 s) (h'.2 s), by rw [mass_app]; have := h.3; have := h'.3; omega⟩
theorem Ints.one {n : Int} {m : MonD} (hm : monMay m = true) : Ints n.natAbs [⟨ofD n, m⟩] :=
 ⟨.cons ⟨n, rfl⟩ .nil, fun s hs => by
  simp only [List.mem_cons, List.not_mem_nil, or_false] at hs
  rw [hs]; exact hm, by simp [Proofs.YtjanagclahkfdaaGreat.mass, val_ofD]⟩
theorem Ints.goodP {M : Nat} {ts : List TermD} (h : Ints M ts) (hM : M < 4611686018427387904) : GoodP ts := h.1.good h.2 (Nat.lt_of_le_of_lt h.3 hM)
theorem Ints.perm {M : Nat} {a b : List TermD} (h : Ints M a) (hp : a.Perm b) : Ints M b :=
 ⟨fun s hs => h.1 s (hp.mem_iff.2 hs), fun s hs => h.2 s (hp.mem_iff.2 hs), by rw [← mass_perm hp]; exact h.3⟩
structure SumOk (o : Int) (M : Nat) (ts : List TermD) : Prop where
 make : polMake o ts = if 60 < (polSum o ts).length then (90, []) else (0, polSum o ts)
 canon : Canon o (polSum o ts)
 ints : Ints M (polSum o ts)
 lin : ∀ f, lin f (polSum o ts) = lin f ts
 mem : ∀ s ∈ polSum o ts, ∃ r ∈ ts, r.m = s.m
theorem sum_ok {o : Int} {M : Nat} {ts : List TermD} (ho : oOk o) (h : Ints M ts) (hM : M < 4611686018427387904) : SumOk o M ts := by
 have hg := h.goodP hM
 obtain ⟨b1, b2, b3, b4⟩ := putAll_int ts [] (.nil ho) .nil h.2 h.1 (by simp only [mass]; have := h.3; omega)
 obtain ⟨c1, c2, c3⟩ := putAll_ok ts [] (.nil ho) .nil hg b1
 have hcan := canon_nz c1 c2
 refine ⟨?_, hcan, ⟨fun t ht => b2 t (List.mem_filter.1 ht).1, fun t ht => (hcan.good t ht).m, ?_⟩, fun f => ?_, fun s hs => ?_⟩
 ·unfold polMake
  have hodd : anyOdd ts = false := by
   unfold anyOdd
   rw [List.any_eq_false]
   intro t ht
   rw [(hg t ht).right]; simp
  rw [hodd, ordered_ok.2 ho, if_neg (by simp), if_neg (by simpa using b1)]
  rfl
 ·refine Nat.le_trans (mass_filter _ _) (Nat.le_trans b3 ?_)
  simp only [mass]
  have := h.3
  omega
 ·unfold polSum
  rw [lin_nz f c2, c3]
  simp only [Proofs.YtjanagclahkfdaaGreat.lin]
  grind
 ·rcases b4 s (List.mem_filter.1 hs).1 with h | ⟨r, hr, _⟩
  ·exact h
  ·cases hr
theorem SumOk.ext {o : Int} {M N : Nat} {a b : List TermD} (h : SumOk o M a) (h' : SumOk o N b) (e : ∀ f, Proofs.YtjanagclahkfdaaGreat.lin f a = Proofs.YtjanagclahkfdaaGreat.lin f b) : polSum o a = polSum o b :=
 canon_ext h.canon h'.canon fun f => by rw [h.lin, h'.lin, e]
theorem SumOk.ext_make {o : Int} {M N : Nat} {a b : List TermD} (h : SumOk o M a) (h' : SumOk o N b) (e : ∀ f, Proofs.YtjanagclahkfdaaGreat.lin f a = Proofs.YtjanagclahkfdaaGreat.lin f b) : polMake o a = polMake o b := by
 rw [h.make, h'.make, h.ext h' e]
theorem SumOk.eq {o : Int} {M : Nat} {a p : List TermD} (h : SumOk o M a) (hp : Canon o p) (e : ∀ f, Proofs.YtjanagclahkfdaaGreat.lin f a = Proofs.YtjanagclahkfdaaGreat.lin f p) (hl : p.length ≤ 60) : polMake o a = (0, p) := by
 have : polSum o a = p := canon_ext h.canon hp fun f => by rw [h.lin, e]
 rw [h.make, this, if_neg (by omega)]
theorem canon_may {o : Int} {p : List TermD} (h : Canon o p) (hl : p.length ≤ 60) : polMay o p = true := by
 unfold polMay
 rw [Bool.and_eq_true, List.all_eq_true]
 refine ⟨fun i hi => ?_, by rw [ordered_ok.2 h.sta.ord, decide_eq_true hl]; rfl⟩
 have hi := List.mem_range.1 hi
 have hget : p[i]? = some p[i] := List.getElem?_eq_getElem hi
 have hmem : p[i] ∈ p := List.getElem_mem hi
 rw [okAt_of hget, (h.good _ hmem).c.may, (h.good _ hmem).m]
 have hz := h.nz _ hmem
 unfold nz at hz
 rw [hz]
 by_cases h0 : i = 0
 ·simp [h0]
 ·have : 0 < monCmp o (p.getD (i - 1) tz).m p[i].m := by
    rw [List.getD_eq_getElem?_getD, List.getElem?_eq_getElem (by omega)]
    exact (List.pairwise_iff_getElem.1 h.sta.fall) (i - 1) i (by omega) hi (by omega)
  rw [decide_eq_true this]; simp
theorem polAdd_int {o : Int} {ps : List (List TermD)} (h : ∀ p ∈ ps, Canon o p ∧ p.length ≤ 60) : polAdd o ps = polMake o ps.flatten := by
 unfold polAdd
 rw [show ps.all (polMay o) = true by rw [List.all_eq_true]; exact fun p hp => canon_may (h p hp).1 (h p hp).2, if_neg (by simp)]
def mulT (s t : TermD) : TermD := ⟨(mulD s.c t.c).2, addM s.m t.m⟩
def prods (p q : List TermD) : List TermD := q.flatMap fun t => p.map fun s => mulT s t
def Fits (p : List TermD) (m : MonD) : Prop := ∀ s ∈ p, monMay (addM s.m m) = true
theorem timesL_int {t : TermD} (ht : ∃ n : Int, t.c = ofD n) (hm : monMay t.m = true) (h9 : val t.c.num < 4294967296) : ∀ {p : List TermD}, IntP p → GoodM p → Fits p t.m → mass p < 4294967296 → timesL t p = (0, p.map fun s => mulT s t)
 | [], _, _, _, _ => rfl
 | s :: r, hi, hg, hf, h8 => by
   simp only [mass] at h8
   have ih := timesL_int ht hm h9 hi.tl (fun x hx => hg x (by simp [hx])) (fun x hx => hf x (by simp [hx])) (by omega)
   obtain ⟨b, eb⟩ := ht
   obtain ⟨a, ea⟩ := hi.hd
   have vb := val_ofD b
   have va := val_ofD a
   rw [← eb] at vb
   rw [← ea] at va
   have e1 : mulD s.c t.c = (0, ofD (a * b)) := by rw [ea, eb]; exact mulD_int (by omega) (by omega)
   have e2 : monMul s.m t.m = (0, addM s.m t.m) := by
    unfold monMul
    rw [hg s (by simp), hm, hf s (by simp)]; rfl
   unfold timesL
   rw [ih, e1, e2]
   simp [mulT, e1]
theorem qv_mulT {s t : TermD} (hs : ∃ n : Int, s.c = ofD n) (ht : ∃ n : Int, t.c = ofD n) (h9 : val t.c.num < 4294967296) (h8 : val s.c.num < 4294967296) :
    (∃ n : Int, (mulT s t).c = ofD n) ∧ qv (mulT s t).c = qv s.c * qv t.c ∧ val (mulT s t).c.num = val s.c.num * val t.c.num := by
 obtain ⟨b, eb⟩ := ht
 obtain ⟨a, ea⟩ := hs
 have vb := val_ofD b
 have va := val_ofD a
 rw [← eb] at vb
 rw [← ea] at va
 have e1 : (mulT s t).c = ofD (a * b) := by
  unfold mulT
  rw [ea, eb, mulD_int (by omega) (by omega)]
 refine ⟨⟨_, e1⟩, ?_, ?_⟩
 ·rw [e1, ea, eb, qv_ofD, qv_ofD, qv_ofD, Rat.intCast_mul]
 ·rw [e1, val_ofD, va, vb, Int.natAbs_mul]
theorem lin_times {t : TermD} (ht : ∃ n : Int, t.c = ofD n) (h9 : val t.c.num < 4294967296) (f : MonD → Rat) : ∀ {p : List TermD}, IntP p → mass p < 4294967296 →
    lin f (p.map fun s => mulT s t) = qv t.c * lin (fun m => f (addM m t.m)) p
 | [], _, _ => by simp only [List.map_nil, lin]; grind
 | s :: r, hi, h8 => by
   simp only [mass] at h8
   have ih := lin_times ht h9 f hi.tl (by omega)
   simp only [List.map_cons, lin, ih]
   rw [(qv_mulT hi.hd ht h9 (by omega)).2.1]
   show qv s.c * qv t.c * f (addM s.m t.m) + _ = _
   grind
theorem mass_times {t : TermD} (ht : ∃ n : Int, t.c = ofD n) (h9 : val t.c.num < 4294967296) : ∀ {p : List TermD}, IntP p → mass p < 4294967296 → mass (p.map fun s => mulT s t) = mass p * val t.c.num ∧ IntP (p.map fun s => mulT s t)
 | [], _, _ => ⟨by simp [mass], .nil⟩
 | s :: r, hi, h8 => by
   simp only [mass] at h8
   obtain ⟨ih, ih2⟩ := mass_times ht h9 hi.tl (by omega)
   obtain ⟨h1, _, h3⟩ := qv_mulT hi.hd ht h9 (by omega)
   refine ⟨?_, .cons h1 ih2⟩
   simp only [List.map_cons, mass, ih, h3]
   rw [Nat.add_mul]
theorem prods_ints {p : List TermD} {M : Nat} (hp : Ints M p) (hM : M < 4294967296) : ∀ {q : List TermD} {N : Nat}, Ints N q → N < 4294967296 → (∀ t ∈ q, Fits p t.m) → Ints (M * N) (prods p q)
 | [], N, _, _, _ => Ints.nil.le (Nat.zero_le _)
 | t :: q, N, hq, hN, hf => by
   have hm := hq.mass
   simp only [Proofs.YtjanagclahkfdaaGreat.mass] at hm
   have hpm := hp.mass
   have h1 := mass_times (t := t) hq.int.hd (by omega) hp.int (by omega)
   have ih := prods_ints hp hM (q := q) (N := N - val t.c.num) ⟨hq.int.tl, fun s hs => hq.good s (by simp [hs]), by omega⟩ (by omega) (fun s hs => hf s (by simp [hs]))
   have : Ints (M * val t.c.num) (p.map fun s => mulT s t) := ⟨h1.2, fun s hs => by
    obtain ⟨r, hr, e⟩ := List.mem_map.1 hs
    rw [← e]
    exact hf t (by simp) r hr, by rw [h1.1]; exact Nat.mul_le_mul_right _ hpm⟩
   have hh := this.app ih
   rw [← Nat.mul_add, show val t.c.num + (N - val t.c.num) = N by omega] at hh
   exact hh
theorem lin_prods {p : List TermD} {M : Nat} (hp : Ints M p) (hM : M < 4294967296) (f : MonD → Rat) : ∀ {q : List TermD} {N : Nat}, Ints N q → N < 4294967296 → lin f (prods p q) = lin (fun m' => lin (fun m => f (addM m m')) p) q
 | [], N, _, _ => rfl
 | t :: q, N, hq, hN => by
   have hm := hq.mass
   simp only [mass] at hm
   have hpm := hp.mass
   have ih := lin_prods hp hM f (q := q) (N := N) ⟨hq.int.tl, fun s hs => hq.good s (by simp [hs]), by omega⟩ hN
   show lin f ((p.map fun s => mulT s t) ++ prods p q) = _
   rw [lin_app, ih, lin_times hq.int.hd (by omega) f hp.int (by omega)]
   rfl
theorem lin_add (f g : MonD → Rat) (p : List TermD) : lin (fun m => f m + g m) p = lin f p + lin g p := by
 induction p with
 | nil => simp only [lin]; grind
 | cons t p ih => simp only [lin, ih]; grind
theorem lin_scale (k : Rat) (f : MonD → Rat) (p : List TermD) : lin (fun m => k * f m) p = k * lin f p := by
 induction p with
 | nil => simp only [lin]; grind
 | cons t p ih => simp only [lin, ih]; grind
theorem lin_zero (p : List TermD) : lin (fun _ => 0) p = 0 := by
 induction p with
 | nil => rfl
 | cons t p ih => simp only [lin, ih]; grind
theorem lin_swap (g : MonD → MonD → Rat) (p q : List TermD) : lin (fun m' => lin (fun m => g m m') p) q = lin (fun m => lin (fun m' => g m m') q) p := by
 induction q with
 | nil => simp only [lin]; exact (lin_zero p).symm
 | cons t q ih =>
   simp only [lin]
   rw [ih, lin_add, lin_scale]
theorem addM_comm (a b : MonD) : addM a b = addM b a := by
 unfold addM
 rw [Int.add_comm a.x0, Int.add_comm a.x1, Int.add_comm a.x2, Int.add_comm a.x3]
theorem lin_prods_comm {p q : List TermD} {M N : Nat} (hp : Ints M p) (hM : M < 4294967296) (hq : Ints N q) (hN : N < 4294967296) (f : MonD → Rat) : lin f (prods p q) = lin f (prods q p) := by
 rw [lin_prods hp hM f hq hN, lin_prods hq hN f hp hM, lin_swap]
 simp only [addM_comm]
structure Pol (o : Int) (M : Nat) (p : List TermD) : Prop where
 ints : Ints M p
 canon : Canon o p
 len : p.length ≤ 60
theorem Pol.may {o : Int} {M : Nat} {p : List TermD} (h : Pol o M p) : polMay o p = true := canon_may h.canon h.len
theorem SumOk.pol {o : Int} {M : Nat} {ts : List TermD} (h : SumOk o M ts) (hl : (polMake o ts).1 = 0) : Pol o M (polMake o ts).2 ∧ polMake o ts = (0, polSum o ts) := by
 have h1 := h.make
 split at h1
 ·rw [h1] at hl; cases hl
 ·rename_i h6
  rw [h1]
  exact ⟨⟨h.ints, h.canon, Nat.le_of_not_lt h6⟩, rfl⟩
theorem polTimes_int {o : Int} {M : Nat} {p : List TermD} {t : TermD} (hp : Pol o M p) (hM : M < 4294967296) (ht : ∃ n : Int, t.c = ofD n) (hm : monMay t.m = true) (h9 : val t.c.num < 4294967296) (hf : Fits p t.m) (hz : nz t = true) :
    polTimes o p t = (0, p.map fun s => mulT s t) := by
 unfold polTimes
 obtain ⟨b, eb⟩ := ht
 have vb := val_ofD b
 rw [← eb] at vb
 have hr : right t = true := GoodT.right ⟨by rw [eb]; exact ofD_small (by omega), hm⟩
 unfold nz at hz
 rw [hp.may, hr, if_neg (by simp), if_neg (by simpa using hz)]
 exact timesL_int ⟨b, eb⟩ hm h9 hp.ints.int hp.ints.good hf (Nat.lt_of_le_of_lt hp.ints.mass hM)
theorem mulC_int {o : Int} {M : Nat} {p : List TermD} (hp : Pol o M p) (hM : M < 4294967296) : ∀ {q : List TermD} {N : Nat}, Ints N q → N < 4294967296 → (∀ t ∈ q, nz t = true) → (∀ t ∈ q, Fits p t.m) → mulC o p q = (0, prods p q)
 | [], N, _, _, _, _ => rfl
 | t :: q, N, hq, hN, hz, hf => by
   have hm := hq.mass
   simp only [mass] at hm
   have ih := mulC_int hp hM (q := q) (N := N) ⟨hq.int.tl, fun s hs => hq.good s (by simp [hs]), by omega⟩ hN (fun s hs => hz s (by simp [hs])) (fun s hs => hf s (by simp [hs]))
   unfold mulC
   rw [polTimes_int hp hM hq.int.hd (hq.good t (by simp)) (by omega) (hf t (by simp)) (hz t (by simp)), ih]
   rfl
theorem polMul_int {o : Int} {M N : Nat} {p q : List TermD} (hp : Pol o M p) (hM : M < 4294967296) (hq : Pol o N q) (hN : N < 4294967296) (hf : ∀ t ∈ q, Fits p t.m) : polMul o p q = polMake o (prods p q) := by
 unfold polMul
 rw [hp.may, hq.may, mulC_int hp hM hq.ints hN hq.canon.nz hf]
 rfl
def Low (k : Int) (ts : List TermD) : Prop := ∀ t ∈ ts, (0 ≤ t.m.x0 ∧ t.m.x0 ≤ k) ∧ (0 ≤ t.m.x1 ∧ t.m.x1 ≤ k) ∧ (0 ≤ t.m.x2 ∧ t.m.x2 ≤ k) ∧ (0 ≤ t.m.x3 ∧ t.m.x3 ≤ k)
theorem monMay_low {m : MonD} (h : (0 ≤ m.x0 ∧ m.x0 ≤ 40) ∧ (0 ≤ m.x1 ∧ m.x1 ≤ 40) ∧ (0 ≤ m.x2 ∧ m.x2 ≤ 40) ∧ (0 ≤ m.x3 ∧ m.x3 ≤ 40)) : monMay m = true := by
 unfold monMay MonD.l
 simp only [List.any_cons, List.any_nil, badE]
 simp
 omega
theorem Low.fits {j k : Int} {p q : List TermD} (hp : Low j p) (hq : Low k q) (h : j + k ≤ 40) : ∀ t ∈ q, Fits p t.m := fun t ht s hs => by
 have h1 := hp s hs
 have h2 := hq t ht
 refine monMay_low ?_
 simp only [addM]
 omega
theorem Low.sum {k : Int} {o : Int} {M : Nat} {ts : List TermD} (h : Low k ts) (hs : SumOk o M ts) : Low k (polSum o ts) := fun t ht => by
 obtain ⟨r, hr, e⟩ := hs.mem t ht
 rw [← e]
 exact h r hr
theorem Low.prods {j k : Int} {p q : List TermD} (hp : Low j p) (hq : Low k q) : Low (j + k) (prods p q) := fun t ht => by
 unfold Proofs.YtjanagclahkfdaaGreat.prods at ht
 obtain ⟨u, hu, ht⟩ := List.mem_flatMap.1 ht
 obtain ⟨s, hs, e⟩ := List.mem_map.1 ht
 have h1 := hp s hs
 have h2 := hq u hu
 rw [← e]
 simp only [mulT, addM]
 omega
theorem Low.app {k : Int} {a b : List TermD} (h : Low k a) (h' : Low k b) : Low k (a ++ b) := fun s hs => (List.mem_append.1 hs).elim (h s) (h' s)
theorem putD_size (o : Int) (al : List TermD) (t : TermD) : (putD o al t).2.length ≤ al.length + 1 := by
 unfold putD
 split
 ·split
  ·simp
  ·simp [setM]
 ·rw [(insD_perm o t al).length_eq]; simp
theorem putAll_size (o : Int) : ∀ (ts al : List TermD), (putAll o al ts).2.length ≤ al.length + ts.length
 | [], al => by simp [putAll]
 | t :: ts, al => by
   unfold putAll
   split
   ·simp
   ·have h1 := putAll_size o ts (putD o al t).2
    have h2 := putD_size o al t
    simp only [List.length_cons]
    omega
theorem polSum_len (o : Int) (ts : List TermD) : (polSum o ts).length ≤ ts.length := by
 unfold polSum
 have h1 := putAll_size o ts []
 have h2 := List.length_filter_le nz (putAll o [] ts).2
 simp only [List.length_nil] at h1
 omega
structure Sm (ts : List TermD) : Prop where
 ints : Ints 1280 ts
 low : Low 3 ts
 len : ts.length ≤ 10
structure SmP (o : Int) (p : List TermD) : Prop where
 pol : Pol o 1280 p
 low : Low 3 p
 len : p.length ≤ 10
theorem Sm.make {o : Int} (ho : oOk o) {ts : List TermD} (h : Sm ts) : SmP o (polMake o ts).2 ∧ (polMake o ts).1 = 0 := by
 have hs := sum_ok ho h.ints (by decide)
 have hl := polSum_len o ts
 have h10 := h.len
 have e : polMake o ts = (0, polSum o ts) := by rw [hs.make, if_neg (by omega)]
 obtain ⟨h1, _⟩ := hs.pol (by rw [e])
 rw [e] at h1 ⊢
 exact ⟨⟨h1, h.low.sum hs, by show (polSum o ts).length ≤ 10; omega⟩, rfl⟩
theorem SmP.fits {o : Int} {p q : List TermD} (hp : SmP o p) (hq : SmP o q) : ∀ t ∈ q, Fits p t.m := hp.low.fits hq.low (by decide)
section
variable {o : Int} {p q r : List TermD}
theorem prods_sum (hp : SmP o p) (hq : SmP o q) : SumOk o (1280 * 1280) (prods p q) ∧ polMul o p q = polMake o (prods p q) :=
 ⟨sum_ok hp.pol.canon.sta.ord (prods_ints hp.pol.ints (by decide) hq.pol.ints (by decide) (hp.fits hq)) (by decide), polMul_int hp.pol (by decide) hq.pol (by decide) (hp.fits hq)⟩
theorem SumOk.code {M : Nat} {ts : List TermD} (h : SumOk o M ts) : (polMake o ts).1 = 0 ∨ (polMake o ts).1 = 90 := by
 rw [h.make]
 split
 ·exact .inr rfl
 ·exact .inl rfl
theorem ring_mul (hp : SmP o p) (hq : SmP o q) : polMul o p q = polMul o q p ∧ ((polMul o p q).1 = 0 ∨ (polMul o p q).1 = 90) := by
 obtain ⟨h1, e1⟩ := prods_sum hp hq
 obtain ⟨h2, e2⟩ := prods_sum hq hp
 rw [e1, e2]
 exact ⟨h1.ext_make h2 fun f => lin_prods_comm hp.pol.ints (by decide) hq.pol.ints (by decide) f, h1.code⟩
theorem ring_add (hp : SmP o p) (hq : SmP o q) : ∃ s, polAdd o [p, q] = (0, s) ∧ polAdd o [q, p] = (0, s) ∧ Pol o 2560 s ∧ Low 3 s ∧ s.length ≤ 20 ∧ ∀ f, lin f s = lin f p + lin f q := by
 have ho := hp.pol.canon.sta.ord
 have h1 := sum_ok ho (hp.pol.ints.app hq.pol.ints) (by decide)
 have h2 := sum_ok ho (hq.pol.ints.app hp.pol.ints) (by decide)
 have e1 : polAdd o [p, q] = polMake o (p ++ q) := by
  rw [polAdd_int (by simp [hp.pol.canon, hp.pol.len, hq.pol.canon, hq.pol.len])]; simp
 have e2 : polAdd o [q, p] = polMake o (q ++ p) := by
  rw [polAdd_int (by simp [hp.pol.canon, hp.pol.len, hq.pol.canon, hq.pol.len])]; simp
 have hl := polSum_len o (p ++ q)
 rw [List.length_append] at hl
 have l1 := hp.len
 have l2 := hq.len
 have e3 : polMake o (p ++ q) = (0, polSum o (p ++ q)) := by rw [h1.make, if_neg (by omega)]
 have e4 := h1.ext_make h2 (fun f => by rw [lin_app, lin_app]; grind)
 refine ⟨polSum o (p ++ q), by rw [e1, e3], by rw [e2, ← e4, e3], ?_, (hp.low.app hq.low).sum h1, by omega, fun f => by rw [h1.lin, lin_app]⟩
 have := (h1.pol (by rw [e3])).1
 rwa [e3] at this
theorem ring_add3 (hp : SmP o p) (hq : SmP o q) (hr : SmP o r) {s : List TermD} (hs : Pol o 2560 s) (h20 : s.length ≤ 20) (hl : ∀ f, lin f s = lin f p + lin f q) : polAdd o [s, r] = polAdd o [p, q, r] := by
 have ho := hp.pol.canon.sta.ord
 have h1 := sum_ok ho (hs.ints.app hr.pol.ints) (by decide)
 have h2 := sum_ok ho ((hp.pol.ints.app hq.pol.ints).app hr.pol.ints) (by decide)
 rw [polAdd_int (by simp [hs.canon, hs.len, hr.pol.canon, hr.pol.len]), polAdd_int (by simp [hp.pol.canon, hp.pol.len, hq.pol.canon, hq.pol.len, hr.pol.canon, hr.pol.len])]
 rw [show [s, r].flatten = s ++ r by simp, show [p, q, r].flatten = p ++ q ++ r by simp]
 exact h1.ext_make h2 fun f => by rw [lin_app, lin_app, lin_app, hl]
theorem negD_ofD (n : Int) : negD (ofD n) = ofD (-n) := by
 unfold negD
 by_cases h : n = 0
 ·subst h
  rw [if_pos (by show (limbs 0).length = 0; rw [limbs_zero]; rfl)]; rfl
 ·have hl : (ofD n).num.length ≠ 0 := ofD_num h
  rw [if_neg hl]
  unfold ofD
  simp only [RatD.mk.injEq, Int.natAbs_neg, and_true]
  rw [Bool.eq_iff_iff]
  simp
  omega
theorem minus_ints {M : Nat} (h : Ints M p) : Ints M (polMinus p) ∧ ∀ f, lin f (polMinus p) = - lin f p := by
 obtain ⟨hi, hg, hm⟩ := h
 have key : IntP (polMinus p) ∧ GoodM (polMinus p) ∧ mass (polMinus p) = mass p ∧ ∀ f, lin f (polMinus p) = - lin f p := by
  clear hm
  induction p with
  | nil => exact ⟨.nil, (fun _ h => by cases h), rfl, fun f => by simp [polMinus, lin]⟩
  | cons t p ih =>
    obtain ⟨a1, a2, a3, a4⟩ := ih hi.tl (fun s hs => hg s (by simp [hs]))
    obtain ⟨n, e⟩ := hi.hd
    have e' : negD t.c = ofD (-n) := by rw [e, negD_ofD]
    have ev : val (negD t.c).num = val t.c.num := by rw [e', e, val_ofD, val_ofD, Int.natAbs_neg]
    refine ⟨.cons ⟨-n, e'⟩ a1, fun s hs => ?_, ?_, fun f => ?_⟩
    ·rcases List.mem_cons.1 hs with rfl | hs
     ·exact hg t (by simp)
     ·exact a2 s hs
    ·show val (negD t.c).num + mass (polMinus p) = val t.c.num + mass p
     rw [ev, a3]
    ·show qv (negD t.c) * f t.m + lin f (polMinus p) = - (qv t.c * f t.m + lin f p)
     rw [a4, e', e, qv_ofD, qv_ofD, Rat.intCast_neg]
     grind
 exact ⟨⟨key.1, key.2.1, by rw [key.2.2.1]; exact hm⟩, key.2.2.2⟩
theorem minus_canon {M : Nat} (h : Ints M p) (hM : M < 4611686018427387904) (hc : Canon o p) : Canon o (polMinus p) := by
 have hi := (minus_ints h).1
 refine ⟨⟨hc.sta.ord, hi.good, ?_⟩, hi.goodP hM, fun t ht => ?_⟩
 ·unfold Fall polMinus
  rw [List.pairwise_map]
  exact hc.sta.fall
 ·unfold polMinus at ht
  obtain ⟨s, hs, rfl⟩ := List.mem_map.1 ht
  obtain ⟨n, e⟩ := h.int s hs
  have hz := hc.nz s hs
  unfold nz at hz ⊢
  simp only [Bool.not_eq_true', decide_eq_false_iff_not] at hz ⊢
  have e2 : (negD s.c).num = s.c.num := by
   unfold negD
   split
   ·rfl
   ·rfl
  rw [e2]; exact hz
theorem ring_minus (hp : SmP o p) : polAdd o [p, polMinus p] = (0, []) := by
 have ho := hp.pol.canon.sta.ord
 obtain ⟨hi, hl⟩ := minus_ints hp.pol.ints
 have hc := minus_canon hp.pol.ints (by decide) hp.pol.canon
 have hlen : (polMinus p).length = p.length := by simp [polMinus]
 have h1 := sum_ok ho (hp.pol.ints.app hi) (by decide)
 have h60 := hp.pol.len
 rw [polAdd_int (by simp [hp.pol.canon, hp.pol.len, hc, hlen]), show [p, polMinus p].flatten = p ++ polMinus p by simp]
 exact h1.eq (canon_nil ho) (fun f => by rw [lin_app, hl]; simp only [lin]; grind) (by simp)
theorem ring_dist (hp : SmP o p) (hq : SmP o q) (hr : SmP o r) {s : List TermD} (hs : Pol o 2560 s) (hsl : Low 3 s) (hl : ∀ f, lin f s = lin f q + lin f r) :
    ((polMul o p s).1 = 0 ∨ (polMul o p s).1 = 90) ∧ ((polMul o p q).1 = 0 → (polMul o p r).1 = 0 → (polMul o p s).1 = 0 → polAdd o [(polMul o p q).2, (polMul o p r).2] = (0, (polMul o p s).2)) := by
 have ho := hp.pol.canon.sta.ord
 obtain ⟨h1, e1⟩ := prods_sum hp hq
 obtain ⟨h2, e2⟩ := prods_sum hp hr
 have hf : ∀ t ∈ s, Fits p t.m := hp.low.fits hsl (by decide)
 have h3 := sum_ok ho (prods_ints hp.pol.ints (by decide) hs.ints (by decide) hf) (by decide)
 have e3 := polMul_int hp.pol (by decide) hs (by decide) hf
 rw [e1, e2, e3]
 refine ⟨h3.code, fun z1 z2 z3 => ?_⟩
 obtain ⟨p1, f1⟩ := h1.pol z1
 obtain ⟨p2, f2⟩ := h2.pol z2
 obtain ⟨p3, f3⟩ := h3.pol z3
 rw [polAdd_int (by simp [p1.canon, p1.len, p2.canon, p2.len])]
 rw [show [(polMake o (prods p q)).2, (polMake o (prods p r)).2].flatten = (polMake o (prods p q)).2 ++ (polMake o (prods p r)).2 by simp]
 have h4 := sum_ok ho (p1.ints.app p2.ints) (by decide)
 refine h4.eq p3.canon (fun f => ?_) p3.len
 rw [lin_app, f1, f2, f3, h1.lin, h2.lin, h3.lin, lin_prods hp.pol.ints (by decide) f hq.pol.ints (by decide), lin_prods hp.pol.ints (by decide) f hr.pol.ints (by decide), lin_prods hp.pol.ints (by decide) f hs.ints (by decide), hl]
theorem zero_add (hp : SmP o p) : polAdd o [p, [], []] = (0, p) := by
 have ho := hp.pol.canon.sta.ord
 rw [polAdd_int (by simp [hp.pol.canon, hp.pol.len, canon_nil ho]), show [p, [], []].flatten = p by simp]
 exact (sum_ok ho hp.pol.ints (by decide)).eq hp.pol.canon (fun f => rfl) hp.pol.len
theorem zero_none (ho : oOk o) : polAdd o [] = (0, []) := by
 rw [polAdd_int (by simp)]
 exact (sum_ok ho Ints.nil (by decide)).eq (canon_nil ho) (fun f => rfl) (by simp)
theorem zero_mul (hp : SmP o p) : polMul o p [] = (0, []) := by
 have ho := hp.pol.canon.sta.ord
 unfold polMul
 rw [hp.pol.may, canon_may (canon_nil ho) (by simp)]
 exact (sum_ok ho Ints.nil (by decide)).eq (canon_nil ho) (fun f => rfl) (by simp)
theorem zero_times (hp : SmP o p) (m : MonD) (hm : monMay m = true) : polTimes o p ⟨ofD 0, m⟩ = (0, []) := by
 unfold polTimes
 rw [hp.pol.may, right_int (n := 0) (by decide) hm, if_neg (by simp), if_pos (by show (limbs 0).length = 0; rw [limbs_zero]; rfl)]
theorem addM_zero (m : MonD) : addM m zeroM = m := by unfold addM zeroM; simp
theorem monMay_zero : monMay zeroM = true := by decide
theorem mulT_one {s : TermD} (hs : ∃ n : Int, s.c = ofD n) (h8 : val s.c.num < 4294967296) : mulT s ⟨ofD 1, zeroM⟩ = s := by
 obtain ⟨n, e⟩ := hs
 have v := val_ofD n
 rw [← e] at v
 unfold mulT
 show (⟨(mulD s.c (ofD 1)).2, addM s.m zeroM⟩ : TermD) = s
 rw [e, mulD_int (by omega) (by decide), addM_zero, Int.mul_one, ← e]
theorem one_times (hp : SmP o p) : polTimes o p ⟨ofD 1, zeroM⟩ = (0, p) := by
 rw [polTimes_int hp.pol (by decide) ⟨1, rfl⟩ monMay_zero (by show val (ofD 1).num < _; rw [val_ofD]; decide) (fun s hs => by show monMay (addM s.m zeroM) = true; rw [addM_zero]; exact hp.pol.canon.sta.good s hs)
  (by have := ofD_num (n := 1) (by decide); unfold nz; simpa using this)]
 refine congrArg (Prod.mk 0) ?_
 rw [show (p.map fun s => mulT s ⟨ofD 1, zeroM⟩) = p.map id from List.map_congr_left fun s hs => mulT_one (hp.pol.ints.int s hs) (Nat.lt_of_le_of_lt (mass_mem hs) (Nat.lt_of_le_of_lt hp.pol.ints.mass (by decide))), List.map_id]
end
end Go.Proofs.YtjanagclahkfdaaGreat
