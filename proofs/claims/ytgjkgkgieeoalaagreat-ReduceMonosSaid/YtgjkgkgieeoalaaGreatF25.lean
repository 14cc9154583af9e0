/- Parts of the proof, joined: each theorem says what it shows. -/
import Derived.Test.YtgjkgkgieeoalaaGreatF01
import Derived.Test.YtgjkgkgieeoalaaGreatF20
import Derived.Test.YtgjkgkgieeoalaaGreatF19
import Derived.Test.YtgjkgkgieeoalaaGreatF17
import Derived.Test.YtgjkgkgieeoalaaGreatF18
set_option linter.unusedVariables false
set_option linter.unusedSimpArgs false
set_option maxHeartbeats 24000000
set_option maxRecDepth 100000
namespace Go.Proofs.YtgjkgkgieeoalaaGreat
open Go.RowKit
theorem putAll_short {o : Int} : ∀ {ts al : List TermD}, (∀ s ∈ al, s.c.short) → (∀ s ∈ ts, s.c.short) → ∀ s ∈ (putAll o al ts).2, s.c.short
 | [], al, h, _ => h
 | t :: ts, al, h, ht => by
   unfold putAll
   split
   ·intro s hs; cases hs
   ·exact putAll_short (putD_short h (ht t (by simp))).1 (fun s hs => ht s (by simp [hs]))
theorem polMake_short {o : Int} {ts : List TermD} (h : ∀ s ∈ ts, s.c.short) : shortP (polMake o ts).2 ∧ (polMake o ts).2.length ≤ 60 := by
 unfold polMake
 split
 ·exact ⟨⟨by simp, fun s hs => by cases hs⟩, by simp⟩
 ·split
  ·exact ⟨⟨by simp, fun s hs => by cases hs⟩, by simp⟩
  ·split
   ·exact ⟨⟨by simp, fun s hs => by cases hs⟩, by simp⟩
   ·rename_i h60
    have hl : ((putAll o [] ts).2.filter nz).length ≤ 60 := Nat.le_of_not_lt h60
    exact ⟨⟨ah hl (by decide), fun s hs => putAll_short (fun _ h => by cases h) h s (List.mem_filter.1 hs).1⟩, hl⟩
end Go.Proofs.YtgjkgkgieeoalaaGreat
namespace Go.Proofs.YtgjkgkgieeoalaaGreat
def IntP (ts : List TermD) : Prop := ∀ t ∈ ts, ∃ n : Int, t.c = ofD n
def mass : List TermD → Nat
 | [] => 0
 | t :: ts => val t.c.num + mass ts
theorem val_ofD (n : Int) : val (ofD n).num = n.natAbs := val_limbs _
theorem mass_app (a b : List TermD) : mass (a ++ b) = mass a + mass b := by
 induction a with
 | nil => simp [mass]
 | cons t a ih => simp only [List.cons_append, mass, ih]; omega
theorem mass_perm {a b : List TermD} (h : a.Perm b) : mass a = mass b := by
 induction h with
 | nil => rfl
 | cons t _ ih => simp only [mass, ih]
 | swap s t l => simp only [mass]; omega
 | trans _ _ h1 h2 => exact h1.trans h2
theorem mass_filter (p : TermD → Bool) (ts : List TermD) : mass (ts.filter p) ≤ mass ts := by
 induction ts with
 | nil => exact ae _
 | cons t ts ih =>
   rw [List.filter_cons]
   split
   ·simp only [mass]; omega
   ·simp only [mass]; omega
theorem mass_mem {ts : List TermD} {t : TermD} (h : t ∈ ts) : val t.c.num ≤ mass ts := by
 induction ts with
 | nil => cases h
 | cons s ts ih =>
   simp only [mass]
   rcases List.mem_cons.1 h with rfl | h
   ·omega
   ·have := ih h; omega
theorem mass_setM {al : List TermD} (hk : al.Pairwise fun p q => p.m ≠ q.m) {p : TermD} (hp : p ∈ al) (c : RatD) : mass (setM al p.m c) + val p.c.num = mass al + val c.num := by
 induction al with
 | nil => cases hp
 | cons q r ih =>
   obtain ⟨h1, h2⟩ := List.pairwise_cons.1 hk
   have e : setM (q :: r) p.m c = (if q.m = p.m then ⟨c, p.m⟩ else q) :: setM r p.m c := rfl
   rcases List.mem_cons.1 hp with rfl | hp
   ·rw [e, if_pos rfl, setM_far (fun s hs => fun h => h1 s hs h.symm)]
    simp only [mass]
    omega
   ·rw [e, if_neg (h1 p hp)]
    simp only [mass]
    have := ih h2 hp
    omega
theorem IntP.hd {t : TermD} {ts : List TermD} (h : IntP (t :: ts)) : ∃ n : Int, t.c = ofD n := h t (by simp)
theorem IntP.tl {t : TermD} {ts : List TermD} (h : IntP (t :: ts)) : IntP ts := fun s hs => h s (by simp [hs])
theorem IntP.nil : IntP [] := fun _ h => by cases h
theorem IntP.cons {t : TermD} {ts : List TermD} (h : ∃ n : Int, t.c = ofD n) (hs : IntP ts) : IntP (t :: ts) := fun s hm => by
 rcases List.mem_cons.1 hm with rfl | hm
 ·exact h
 ·exact hs s hm
theorem IntP.app {a b : List TermD} (h : IntP a) (h' : IntP b) : IntP (a ++ b) := fun s hm => by
 rcases List.mem_append.1 hm with hm | hm
 ·exact h s hm
 ·exact h' s hm
theorem IntP.good {ts : List TermD} (h : IntP ts) (hg : GoodM ts) (hm : mass ts < 4611686018427387904) : GoodP ts := fun t ht => by
 obtain ⟨n, e⟩ := h t ht
 have := mass_mem ht
 rw [e, val_ofD] at this
 exact ⟨by rw [e]; exact ofD_small (by omega), hg t ht⟩
theorem putD_int {o : Int} {al : List TermD} {t : TermD} (h : Sta o al) (hi : IntP al) (ht : ∃ n : Int, t.c = ofD n) (hm : mass al + val t.c.num < 4611686018427387904) :
    (putD o al t).1 = 0 ∧ IntP (putD o al t).2 ∧ mass (putD o al t).2 ≤ mass al + val t.c.num ∧ ∀ s ∈ (putD o al t).2, s.m = t.m ∨ ∃ r ∈ al, r.m = s.m := by
 obtain ⟨b, eb⟩ := ht
 have vb := val_ofD b
 rw [← eb] at vb
 unfold putD
 by_cases hh : hasM al t.m = true
 ·rw [if_pos hh]
  obtain ⟨p, hp, em, ec⟩ := getM_of hh
  obtain ⟨a, ea⟩ := hi p hp
  have va := val_ofD a
  rw [← ea] at va
  have hpm := mass_mem hp
  rw [ec, ea, eb, addD_int (by omega) (by omega)]
  simp only [ne_eq, not_true, if_false]
  refine ⟨trivial, fun s hs => ?_, ?_, fun s hs => ?_⟩
  ·rcases (mem_setM hh).1 hs with rfl | ⟨hs, _⟩
   ·exact ⟨_, rfl⟩
   ·exact hi s hs
  ·have := mass_setM h.keys hp (ofD (a + b))
   rw [em, val_ofD] at this
   rw [eb] at vb
   omega
  ·rcases (mem_setM hh).1 hs with rfl | ⟨hs, _⟩
   ·exact .inl rfl
   ·exact .inr ⟨s, hs, rfl⟩
 ·rw [if_neg hh]
  refine ⟨rfl, fun s hs => ?_, ?_, fun s hs => ?_⟩
  ·rcases mem_insD.1 hs with rfl | hs
   ·exact ⟨b, eb⟩
   ·exact hi s hs
  ·rw [mass_perm (insD_perm o t al)]
   simp only [mass]
   omega
  ·rcases mem_insD.1 hs with rfl | hs
   ·exact .inl rfl
   ·exact .inr ⟨s, hs, rfl⟩
theorem putAll_int {o : Int} : ∀ (ts al : List TermD), Sta o al → IntP al → GoodM ts → IntP ts → mass al + mass ts < 4611686018427387904 →
    (putAll o al ts).1 = 0 ∧ IntP (putAll o al ts).2 ∧ mass (putAll o al ts).2 ≤ mass al + mass ts ∧ ∀ s ∈ (putAll o al ts).2, (∃ r ∈ ts, r.m = s.m) ∨ ∃ r ∈ al, r.m = s.m
 | [], al, h, hi, _, _, _ => ⟨rfl, hi, by simp [putAll, mass], fun s hs => .inr ⟨s, hs, rfl⟩⟩
 | t :: ts, al, h, hi, hg, ht, hm => by
   simp only [mass] at hm
   obtain ⟨a1, a2, a3, a4⟩ := putD_int h hi ht.hd (by omega)
   unfold putAll
   rw [if_neg (by simpa using a1)]
   obtain ⟨b1, b2, b3, b4⟩ := putAll_int ts _ (h.putD (hg t (by simp)) a1) a2 (fun s hs => hg s (by simp [hs])) ht.tl (by omega)
   refine ⟨b1, b2, by simp only [mass]; omega, fun s hs => ?_⟩
   rcases b4 s hs with ⟨r, hr, e⟩ | ⟨r, hr, e⟩
   ·exact .inl ⟨r, by simp [hr], e⟩
   ·rcases a4 r hr with h' | ⟨q, hq, e'⟩
    ·exact .inl ⟨t, by simp, by rw [← e, h']⟩
    ·exact .inr ⟨q, hq, e'.trans e⟩
def polSum (o : Int) (ts : List TermD) : List TermD := (putAll o [] ts).2.filter nz
structure Ints (M : Nat) (ts : List TermD) : Prop where
 int : IntP ts
 good : GoodM ts
 mass : mass ts ≤ M
theorem Ints.nil : Ints 0 [] := ⟨.nil, (fun _ h => by cases h), ae _⟩
theorem Ints.le {M N : Nat} {ts : List TermD} (h : Ints M ts) (hn : M ≤ N) : Ints N ts := ⟨h.1, h.2, ah h.3 hn⟩
theorem Ints.app {M N : Nat} {a b : List TermD} (h : Ints M a) (h' : Ints N b) : Ints (M + N) (a ++ b) :=
 ⟨h.1.app h'.1, fun s hs => (List.mem_append.1 hs).elim (h.2 s) (h'.2 s), by rw [mass_app]; have := h.3; have := h'.3; omega⟩
theorem Ints.one {n : Int} {m : MonD} (hm : monMay m = true) : Ints n.natAbs [⟨ofD n, m⟩] :=
 ⟨.cons ⟨n, rfl⟩ .nil, fun s hs => by
  simp only [List.mem_cons, List.not_mem_nil, or_false] at hs
  rw [hs]; exact hm, by simp [Proofs.YtgjkgkgieeoalaaGreat.mass, val_ofD]⟩
theorem Ints.goodP {M : Nat} {ts : List TermD} (h : Ints M ts) (hM : M < 4611686018427387904) : GoodP ts := h.1.good h.2 (Nat.lt_of_le_of_lt h.3 hM)
structure SumOk (o : Int) (M : Nat) (ts : List TermD) : Prop where
 make : polMake o ts = if 60 < (polSum o ts).length then (90, []) else (0, polSum o ts)
 canon : Canon o (polSum o ts)
 ints : Ints M (polSum o ts)
 lin : ∀ f, lin f (polSum o ts) = lin f ts
 mem : ∀ s ∈ polSum o ts, ∃ r ∈ ts, r.m = s.m
theorem sum_ok {o : Int} {M : Nat} {ts : List TermD} (ho : oOk o) (h : Ints M ts) (hM : M < 4611686018427387904) : SumOk o M ts := by
 have hg := h.goodP hM
 obtain ⟨b1, b2, b3, b4⟩ := putAll_int ts [] (.nil ho) .nil h.2 h.1 (by simp only [mass]; have := h.3; omega)
 obtain ⟨c1, c2, c3⟩ := putAll_ok ts [] (.nil ho) .nil hg b1
 have hcan := canon_nz c1 c2
 refine ⟨?_, hcan, ⟨fun t ht => b2 t (List.mem_filter.1 ht).1, fun t ht => (hcan.good t ht).m, ?_⟩, fun f => ?_, fun s hs => ?_⟩
 ·unfold polMake
  have hodd : anyOdd ts = false := by
   unfold anyOdd
   rw [List.any_eq_false]
   intro t ht
   rw [(hg t ht).right]; simp
  rw [hodd, ordered_ok.2 ho, if_neg (by simp), if_neg (by simpa using b1)]
  rfl
 ·refine ah (mass_filter _ _) (ah b3 ?_)
  simp only [mass]
  have := h.3
  omega
 ·unfold polSum
  rw [lin_nz f c2, c3]
  simp only [Proofs.YtgjkgkgieeoalaaGreat.lin]
  grind
 ·rcases b4 s (List.mem_filter.1 hs).1 with h | ⟨r, hr, _⟩
  ·exact h
  ·cases hr
theorem SumOk.eq {o : Int} {M : Nat} {a p : List TermD} (h : SumOk o M a) (hp : Canon o p) (e : ∀ f, Proofs.YtgjkgkgieeoalaaGreat.lin f a = Proofs.YtgjkgkgieeoalaaGreat.lin f p) (hl : p.length ≤ 60) : polMake o a = (0, p) := by
 have : polSum o a = p := canon_ext h.canon hp fun f => by rw [h.lin, e]
 rw [h.make, this, if_neg (by omega)]
theorem canon_may {o : Int} {p : List TermD} (h : Canon o p) (hl : p.length ≤ 60) : polMay o p = true := by
 unfold polMay
 rw [Bool.and_eq_true, List.all_eq_true]
 refine ⟨fun i hi => ?_, by rw [ordered_ok.2 h.sta.ord, decide_eq_true hl]; rfl⟩
 have hi := List.mem_range.1 hi
 have hget : p[i]? = some p[i] := ai hi
 have hmem : p[i] ∈ p := List.getElem_mem hi
 rw [okAt_of hget, (h.good _ hmem).c.may, (h.good _ hmem).m]
 have hz := h.nz _ hmem
 unfold nz at hz
 rw [hz]
 by_cases h0 : i = 0
 ·simp [h0]
 ·have : 0 < monCmp o (p.getD (i - 1) tz).m p[i].m := by
    rw [List.getD_eq_getElem?_getD, ai (by omega)]
    exact (List.pairwise_iff_getElem.1 h.sta.fall) (i - 1) i (by omega) hi (by omega)
  rw [decide_eq_true this]; simp
theorem polAdd_int {o : Int} {ps : List (List TermD)} (h : ∀ p ∈ ps, Canon o p ∧ p.length ≤ 60) : polAdd o ps = polMake o ps.flatten := by
 unfold polAdd
 rw [show ps.all (polMay o) = true by rw [List.all_eq_true]; exact fun p hp => canon_may (h p hp).1 (h p hp).2, if_neg (by simp)]
def mulT (s t : TermD) : TermD := ⟨(mulD s.c t.c).2, addM s.m t.m⟩
def prods (p q : List TermD) : List TermD := q.flatMap fun t => p.map fun s => mulT s t
def Fits (p : List TermD) (m : MonD) : Prop := ∀ s ∈ p, monMay (addM s.m m) = true
theorem timesL_int {t : TermD} (ht : ∃ n : Int, t.c = ofD n) (hm : monMay t.m = true) (h9 : val t.c.num < 4294967296) : ∀ {p : List TermD}, IntP p → GoodM p → Fits p t.m → mass p < 4294967296 → timesL t p = (0, p.map fun s => mulT s t)
 | [], _, _, _, _ => rfl
 | s :: r, hi, hg, hf, h8 => by
   simp only [mass] at h8
   have ih := timesL_int ht hm h9 hi.tl (fun x hx => hg x (by simp [hx])) (fun x hx => hf x (by simp [hx])) (by omega)
   obtain ⟨b, eb⟩ := ht
   obtain ⟨a, ea⟩ := hi.hd
   have vb := val_ofD b
   have va := val_ofD a
   rw [← eb] at vb
   rw [← ea] at va
   have e1 : mulD s.c t.c = (0, ofD (a * b)) := by rw [ea, eb]; exact mulD_int (by omega) (by omega)
   have e2 : monMul s.m t.m = (0, addM s.m t.m) := by
    unfold monMul
    rw [hg s (by simp), hm, hf s (by simp)]; rfl
   unfold timesL
   rw [ih, e1, e2]
   simp [mulT, e1]
theorem qv_mulT {s t : TermD} (hs : ∃ n : Int, s.c = ofD n) (ht : ∃ n : Int, t.c = ofD n) (h9 : val t.c.num < 4294967296) (h8 : val s.c.num < 4294967296) :
    (∃ n : Int, (mulT s t).c = ofD n) ∧ qv (mulT s t).c = qv s.c * qv t.c ∧ val (mulT s t).c.num = val s.c.num * val t.c.num := by
 obtain ⟨b, eb⟩ := ht
 obtain ⟨a, ea⟩ := hs
 have vb := val_ofD b
 have va := val_ofD a
 rw [← eb] at vb
 rw [← ea] at va
 have e1 : (mulT s t).c = ofD (a * b) := by
  unfold mulT
  rw [ea, eb, mulD_int (by omega) (by omega)]
 refine ⟨⟨_, e1⟩, ?_, ?_⟩
 ·rw [e1, ea, eb, qv_ofD, qv_ofD, qv_ofD, Rat.intCast_mul]
 ·rw [e1, val_ofD, va, vb, Int.natAbs_mul]
theorem lin_times {t : TermD} (ht : ∃ n : Int, t.c = ofD n) (h9 : val t.c.num < 4294967296) (f : MonD → Rat) : ∀ {p : List TermD}, IntP p → mass p < 4294967296 →
    lin f (p.map fun s => mulT s t) = qv t.c * lin (fun m => f (addM m t.m)) p
 | [], _, _ => by simp only [List.map_nil, lin]; grind
 | s :: r, hi, h8 => by
   simp only [mass] at h8
   have ih := lin_times ht h9 f hi.tl (by omega)
   simp only [List.map_cons, lin, ih]
   rw [(qv_mulT hi.hd ht h9 (by omega)).2.1]
   show qv s.c * qv t.c * f (addM s.m t.m) + _ = _
   grind
theorem mass_times {t : TermD} (ht : ∃ n : Int, t.c = ofD n) (h9 : val t.c.num < 4294967296) : ∀ {p : List TermD}, IntP p → mass p < 4294967296 → mass (p.map fun s => mulT s t) = mass p * val t.c.num ∧ IntP (p.map fun s => mulT s t)
 | [], _, _ => ⟨by simp [mass], .nil⟩
 | s :: r, hi, h8 => by
   simp only [mass] at h8
   obtain ⟨ih, ih2⟩ := mass_times ht h9 hi.tl (by omega)
   obtain ⟨h1, _, h3⟩ := qv_mulT hi.hd ht h9 (by omega)
   refine ⟨?_, .cons h1 ih2⟩
   simp only [List.map_cons, mass, ih, h3]
   rw [Nat.add_mul]
theorem prods_ints {p : List TermD} {M : Nat} (hp : Ints M p) (hM : M < 4294967296) : ∀ {q : List TermD} {N : Nat}, Ints N q → N < 4294967296 → (∀ t ∈ q, Fits p t.m) → Ints (M * N) (prods p q)
 | [], N, _, _, _ => Ints.nil.le (Nat.zero_le _)
 | t :: q, N, hq, hN, hf => by
   have hm := hq.mass
   simp only [Proofs.YtgjkgkgieeoalaaGreat.mass] at hm
   have hpm := hp.mass
   have h1 := mass_times (t := t) hq.int.hd (by omega) hp.int (by omega)
   have ih := prods_ints hp hM (q := q) (N := N - val t.c.num) ⟨hq.int.tl, fun s hs => hq.good s (by simp [hs]), by omega⟩ (by omega) (fun s hs => hf s (by simp [hs]))
   have : Ints (M * val t.c.num) (p.map fun s => mulT s t) := ⟨h1.2, fun s hs => by
    obtain ⟨r, hr, e⟩ := List.mem_map.1 hs
    rw [← e]
    exact hf t (by simp) r hr, by rw [h1.1]; exact Nat.mul_le_mul_right _ hpm⟩
   have hh := this.app ih
   rw [← Nat.mul_add, show val t.c.num + (N - val t.c.num) = N by omega] at hh
   exact hh
theorem lin_prods {p : List TermD} {M : Nat} (hp : Ints M p) (hM : M < 4294967296) (f : MonD → Rat) : ∀ {q : List TermD} {N : Nat}, Ints N q → N < 4294967296 → lin f (prods p q) = lin (fun m' => lin (fun m => f (addM m m')) p) q
 | [], N, _, _ => rfl
 | t :: q, N, hq, hN => by
   have hm := hq.mass
   simp only [mass] at hm
   have hpm := hp.mass
   have ih := lin_prods hp hM f (q := q) (N := N) ⟨hq.int.tl, fun s hs => hq.good s (by simp [hs]), by omega⟩ hN
   show lin f ((p.map fun s => mulT s t) ++ prods p q) = _
   rw [lin_app, ih, lin_times hq.int.hd (by omega) f hp.int (by omega)]
   rfl
theorem addM_comm (a b : MonD) : addM a b = addM b a := by
 unfold addM
 rw [Int.add_comm a.x0, Int.add_comm a.x1, Int.add_comm a.x2, Int.add_comm a.x3]
structure Pol (o : Int) (M : Nat) (p : List TermD) : Prop where
 ints : Ints M p
 canon : Canon o p
 len : p.length ≤ 60
theorem Pol.may {o : Int} {M : Nat} {p : List TermD} (h : Pol o M p) : polMay o p = true := canon_may h.canon h.len
theorem SumOk.pol {o : Int} {M : Nat} {ts : List TermD} (h : SumOk o M ts) (hl : (polMake o ts).1 = 0) : Pol o M (polMake o ts).2 ∧ polMake o ts = (0, polSum o ts) := by
 have h1 := h.make
 split at h1
 ·rw [h1] at hl; cases hl
 ·rename_i h6
  rw [h1]
  exact ⟨⟨h.ints, h.canon, Nat.le_of_not_lt h6⟩, rfl⟩
theorem polTimes_int {o : Int} {M : Nat} {p : List TermD} {t : TermD} (hp : Pol o M p) (hM : M < 4294967296) (ht : ∃ n : Int, t.c = ofD n) (hm : monMay t.m = true) (h9 : val t.c.num < 4294967296) (hf : Fits p t.m) (hz : nz t = true) :
    polTimes o p t = (0, p.map fun s => mulT s t) := by
 unfold polTimes
 obtain ⟨b, eb⟩ := ht
 have vb := val_ofD b
 rw [← eb] at vb
 have hr : right t = true := GoodT.right ⟨by rw [eb]; exact ofD_small (by omega), hm⟩
 unfold nz at hz
 rw [hp.may, hr, if_neg (by simp), if_neg (by simpa using hz)]
 exact timesL_int ⟨b, eb⟩ hm h9 hp.ints.int hp.ints.good hf (Nat.lt_of_le_of_lt hp.ints.mass hM)
theorem mulC_int {o : Int} {M : Nat} {p : List TermD} (hp : Pol o M p) (hM : M < 4294967296) : ∀ {q : List TermD} {N : Nat}, Ints N q → N < 4294967296 → (∀ t ∈ q, nz t = true) → (∀ t ∈ q, Fits p t.m) → mulC o p q = (0, prods p q)
 | [], N, _, _, _, _ => rfl
 | t :: q, N, hq, hN, hz, hf => by
   have hm := hq.mass
   simp only [mass] at hm
   have ih := mulC_int hp hM (q := q) (N := N) ⟨hq.int.tl, fun s hs => hq.good s (by simp [hs]), by omega⟩ hN (fun s hs => hz s (by simp [hs])) (fun s hs => hf s (by simp [hs]))
   unfold mulC
   rw [polTimes_int hp hM hq.int.hd (hq.good t (by simp)) (by omega) (hf t (by simp)) (hz t (by simp)), ih]
   rfl
theorem polMul_int {o : Int} {M N : Nat} {p q : List TermD} (hp : Pol o M p) (hM : M < 4294967296) (hq : Pol o N q) (hN : N < 4294967296) (hf : ∀ t ∈ q, Fits p t.m) : polMul o p q = polMake o (prods p q) := by
 unfold polMul
 rw [hp.may, hq.may, mulC_int hp hM hq.ints hN hq.canon.nz hf]
 rfl
def Low (k : Int) (ts : List TermD) : Prop := ∀ t ∈ ts, (0 ≤ t.m.x0 ∧ t.m.x0 ≤ k) ∧ (0 ≤ t.m.x1 ∧ t.m.x1 ≤ k) ∧ (0 ≤ t.m.x2 ∧ t.m.x2 ≤ k) ∧ (0 ≤ t.m.x3 ∧ t.m.x3 ≤ k)
theorem monMay_low {m : MonD} (h : (0 ≤ m.x0 ∧ m.x0 ≤ 40) ∧ (0 ≤ m.x1 ∧ m.x1 ≤ 40) ∧ (0 ≤ m.x2 ∧ m.x2 ≤ 40) ∧ (0 ≤ m.x3 ∧ m.x3 ≤ 40)) : monMay m = true := by
 unfold monMay MonD.l
 simp only [List.any_cons, List.any_nil, badE]
 simp
 omega
theorem Low.fits {j k : Int} {p q : List TermD} (hp : Low j p) (hq : Low k q) (h : j + k ≤ 40) : ∀ t ∈ q, Fits p t.m := fun t ht s hs => by
 have h1 := hp s hs
 have h2 := hq t ht
 refine monMay_low ?_
 simp only [addM]
 omega
theorem Low.sum {k : Int} {o : Int} {M : Nat} {ts : List TermD} (h : Low k ts) (hs : SumOk o M ts) : Low k (polSum o ts) := fun t ht => by
 obtain ⟨r, hr, e⟩ := hs.mem t ht
 rw [← e]
 exact h r hr
theorem Low.prods {j k : Int} {p q : List TermD} (hp : Low j p) (hq : Low k q) : Low (j + k) (prods p q) := fun t ht => by
 unfold Proofs.YtgjkgkgieeoalaaGreat.prods at ht
 obtain ⟨u, hu, ht⟩ := List.mem_flatMap.1 ht
 obtain ⟨s, hs, e⟩ := List.mem_map.1 ht
 have h1 := hp s hs
 have h2 := hq u hu
 rw [← e]
 simp only [mulT, addM]
 omega
theorem Low.app {k : Int} {a b : List TermD} (h : Low k a) (h' : Low k b) : Low k (a ++ b) := fun s hs => (List.mem_append.1 hs).elim (h s) (h' s)
end Go.Proofs.YtgjkgkgieeoalaaGreat
