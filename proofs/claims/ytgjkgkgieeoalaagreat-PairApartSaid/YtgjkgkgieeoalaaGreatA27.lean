/- Parts of the proof, joined: each theorem says what it shows. -/
import Derived.Test.YtgjkgkgieeoalaaGreatA26
import Derived.Test.YtgjkgkgieeoalaaGreatA25
import Derived.Test.YtgjkgkgieeoalaaGreatA23
import Derived.Test.YtgjkgkgieeoalaaGreatA21
import Derived.Test.YtgjkgkgieeoalaaGreatA01
import Derived.OrdersHeld
import Derived.StillTail
import Derived.Deep.QuietTactic
set_option linter.unusedVariables false
set_option linter.unusedSimpArgs false
set_option maxHeartbeats 24000000
set_option maxRecDepth 100000
namespace Go.Proofs.YtgjkgkgieeoalaaGreat
open Go.RowKit
theorem rpol_AddF (b0 : Nat) (order : Int) (A : Option Addr) (c : Nat) (ps : List (List TermD)) (w : World) (hb0 : b0 ≤ w.heap.size) (h : RPols w b0 A ps) (hc : ps.length ≤ c) (h8 : ps.length ≤ 800) (hs : shortPs ps) :
    Calls Tryz.prog 44 #[.int .i64 order, .slice A ps.length c] w fun e w' => ∃ A' c', e = .returned (.tuple #[.slice A' (polAdd order ps).2.length c', .int .i64 (polAdd order ps).1]) ∧
     (polAdd order ps).2.length ≤ c' ∧ RPol w' b0 A' (polAdd order ps).2 ∧ Below w.heap.size w w' ∧ Fr w.heap.size A' := by
 have HP := Hd.mk h
 have HS := Hd.mk hs
 have HB0 := Hd.mk hb0
 obtain ⟨E, hE⟩ : ∃ E, polAdd order ps = E := ⟨_, rfl⟩
 rw [hE]
 have HE := Hd.mk hE
 clear h hs hb0 hE
 go_enter Tryz.func44, Tryz.ntmps44
 go_upto_region 2 with (fail)
 refine wp_gen (fun W => Below w.heap.size w W ∧ OwnT W b0 w.heap.size (.slice (some ⟨w.heap.size, 0, none⟩) 0 0) []) ⟨(Below.refl _ _).alloc (Nat.le_refl _) _, ownT_lit w b0 w.heap.size (Nat.le_refl _)⟩ ?_
 intro W0 hW
 have HB := Hd.mk hW.out.1
 have HO := Hd.mk hW.out.2
 clear hW
 go_wp2_with fail
 go_loopw [6, 7] (fun v6 v7 wr => ∃ (i : Nat) (acc : List TermD), v7 = .int .i64 i ∧ i ≤ ps.length ∧ acc.length ≤ 60 * i ∧ Hd ((ps.take i).all (polMay order) = true) ∧ Hd (acc = (ps.take i).flatten) ∧ Hd (OwnT wr b0 w.heap.size v6 acc) ∧ Hd (Below w.heap.size w wr)) (fun _ v _ => ps.length - (intOf v).toNat)
 case atStart => exact ⟨0, [], rfl, by omega, by simp, ⟨rfl⟩, ⟨rfl⟩, HO, HB⟩
 case round =>
  clear HO HB
  obtain ⟨i, acc, rfl, hi, hfl, HA, HFA, HO, HB⟩ := hrel
  obtain ⟨Av, cv, rfl, hcv, _, hrv⟩ := HO.out.reads
  have HRV := Hd.mk hrv
  clear hrv
  by_cases hlt : i < ps.length
  ·have i1 : (i : Int) < ps.length := by omega
   have i3 : (0 : Int) ≤ i := by omega
   obtain ⟨ad, a, ca, p, rfl, hab, hpi, q0, hpc, hrp⟩ := (HP.out.up HB.out).get hlt
   have CM := Hd.mk (rpol_May b0 order a ca p wr hrp.out hpc (HS.out.2 p (List.mem_of_getElem? hpi.out)))
   have HAL := Hd.mk (all_take (f := polMay order) hpi.out)
   have HFL : Hd (acc ++ p = (ps.take (i + 1)).flatten) := ⟨by rw [flat_take hpi.out, HFA.out]⟩
   cases hm : polMay order p
   ·rw [hm] at CM HAL
    have HF : Hd (E = (1, [])) := ⟨by
     rw [← HE.out]
     unfold polAdd
     rw [if_pos]
     rw [List.all_eq_false]
     exact ⟨p, List.mem_of_getElem? hpi.out, by rw [hm]; simp⟩⟩
    clear hm hpi
    go_wp2_with fail
    refine CM.out.mono ?_
    rintro e w3 ⟨rfl, hb3⟩
    have HB3 := Hd.mk (goes HB.out hb3)
    clear hb3
    go_wp2_with fail
    go_ret2
    rw [HF.out]
    exact ⟨none, 0, rfl, Nat.le_refl _, RPol.nil _ _ _, HB3.out, Fr.none _⟩
   ·rw [hm] at CM HAL
    have hp60 := polMay_len hm
    have xl : acc.length + p.length ≤ 1000000 := by omega
    have XL := Hd.mk xl
    have HAL2 : Hd ((ps.take (i + 1)).all (polMay order) = true) := ⟨by rw [HAL.out, HA.out]; rfl⟩
    have hl2 : (acc ++ p).length ≤ 60 * (i + 1) := by rw [List.length_append]; omega
    clear hm hpi xl hfl HFA
    go_wp2_with fail
    refine CM.out.mono ?_
    rintro e w3 ⟨rfl, hb3⟩
    have HB3 := Hd.mk (goes HB.out hb3)
    have HO3 := Hd.mk (HO.out.up hb3)
    have HR3 := Hd.mk (hrp.out.up hb3)
    have r0 := cell_up q0 hb3
    clear hb3 CM hrp q0
    go_wp2_with (at_builtin; refine wpList_append_T (w0 := w) (us := p) rfl _ _ 24 25 rfl Tryz.slTerms Tryz.slPoly rfl rfl rfl HO3.out HR3.out HB0.out XL.out HB3.out (Nat.le_refl _) HB3.out.size ?_)
    intro v' w8 AP
    have HAP := Hd.mk AP
    clear AP
    go_wp2_with fail
    go_roundw
    case measure => first | (simp [intOf]; done) | (simp [intOf]; omega)
    case rel => exact ⟨i + 1, _, by go_num, by omega, hl2, HAL2, HFL, ⟨HAP.out.own⟩, ⟨HAP.out.below⟩⟩
  ·obtain rfl : i = ps.length := by omega
   rw [List.take_length] at HA HFA
   have HF : Hd (polMake order acc = E) := ⟨by rw [HFA.out, ← HE.out]; unfold polAdd; rw [HA.out, if_neg (by simp)]⟩
   have hsh : shortP acc := ⟨by omega, fun s hs => by
    rw [HFA.out] at hs
    obtain ⟨p, hp, hsp⟩ := List.mem_flatten.1 hs
    exact (HS.out.2 p hp).2 s hsp⟩
   have CMk := Hd.mk (rpol_MakeF b0 order Av cv acc wr (Nat.le_trans HB0.out HB.out.size) HRV.out hcv (by omega) hsh)
   rw [HF.out] at CMk
   clear hfl
   go_wp2_with fail
   refine CMk.out.mono ?_
   rintro e w8 ⟨A8, c8, rfl, hc8, hr8, hb8, hf8⟩
   have HF8 := Hd.mk (hf8.le HB.out.size)
   have HB8 := Hd.mk (goes HB.out hb8)
   have HR8 := Hd.mk hr8
   clear hb8 hr8 hf8
   go_wp2_with fail
   go_ret2
   exact ⟨A8, c8, rfl, hc8, HR8.out, HB8.out, HF8.out⟩
theorem polMay_at {o : Int} {p : List TermD} (h : polMay o p = true) {i : Nat} {t : TermD} (hi : p[i]? = some t) : right t = true ∧ t.c.num.length ≠ 0 := by
 unfold polMay at h
 rw [Bool.and_eq_true, List.all_eq_true] at h
 have hlt : i < p.length := by
  rcases Nat.lt_or_ge i p.length with h1 | h1
  ·exact h1
  ·rw [List.getElem?_eq_none h1] at hi; cases hi
 have h2 := h.1 i (List.mem_range.2 hlt)
 rw [okAt_of hi] at h2
 simp only [Bool.and_eq_true, Bool.not_eq_true', decide_eq_false_iff_not] at h2
 exact ⟨by unfold right; rw [h2.1.1.1, h2.1.1.2]; rfl, h2.1.2⟩
theorem polMay_inv {o : Int} {t : TermD} {r : List TermD} (h : polMay o (t :: r) = true) : (invD t.c).1 = 0 := by
 obtain ⟨h1, h2⟩ := polMay_at h (i := 0) rfl
 unfold right at h1
 rw [Bool.and_eq_true] at h1
 unfold invD
 rw [h1.1, if_neg (by simp), if_neg h2]
structure Bo1 (S g : Nat) (w0 w : World) (ty : TypeId) (cs : Array Value) : Prop where
 below : Below S w0 w
 s1 : S ≤ g
 k1 : Bk w g ty cs
section
variable {S g : Nat} {w0 w w' : World} {ty : TypeId} {cs : Array Value}
theorem Bo1.up (h : Bo1 S g w0 w ty cs) (hb : Below w.heap.size w w') : Bo1 S g w0 w' ty cs :=
 ⟨h.below.trans (hb.mono (Nat.le_trans h.s1 (Nat.le_of_lt h.k1.lt))), h.s1, h.k1.up hb⟩
theorem Bo1.al (h : Bo1 S g w0 w ty cs) (o : Obj) : Bo1 S g w0 (w.alloc o) ty cs := h.up ((Below.refl _ _).alloc (Nat.le_refl _) _)
theorem Bo1.d1 (h : Bo1 S g w0 w ty cs) : Bo1 S g w0 w.drew ty cs := ⟨Below.dn h.below 1, h.s1, h.k1⟩
end
theorem shortP_nil : shortP [] := ⟨by simp, fun s hs => by cases hs⟩
theorem polAdd_short {o : Int} {ps : List (List TermD)} (h : ∀ p ∈ ps, shortP p) : shortP (polAdd o ps).2 := by
 unfold polAdd
 split
 ·exact shortP_nil
 ·exact (polMake_short fun s hs => by
    obtain ⟨p, hp, hs⟩ := List.mem_flatten.1 hs
    exact (h p hp).2 s hs).1
theorem polTimes_short {o : Int} {p : List TermD} (t : TermD) (h : shortP p) : shortP (polTimes o p t).2 :=
 ⟨Nat.le_trans (polTimes_facts o p t).1 h.1, (polTimes_facts o p t).2⟩
def AllP (b0 : Nat) (w : World) (l : List (Option Addr × List TermD)) : Prop := ∀ (j : Nat) (p : Option Addr × List TermD), l[j]? = some p → RPol w b0 p.1 p.2
section
variable {b0 : Nat} {w w' : World} {l : List (Option Addr × List TermD)}
theorem AllP.up (h : AllP b0 w l) (hb : Below w.heap.size w w') : AllP b0 w' l := fun j p hp => (h j p hp).up hb
theorem AllP.cons {A : Option Addr} {ts : List TermD} (h : AllP b0 w l) (hr : RPol w b0 A ts) : AllP b0 w ((A, ts) :: l) := fun j p hp => by
 match j, hp with
 | 0, hp => injection hp with hp; subst hp; exact hr
 | j + 1, hp => exact h j p hp
theorem AllP.nil : AllP b0 w [] := fun j p hp => by simp at hp
end
end Go.Proofs.YtgjkgkgieeoalaaGreat
namespace Go.Proofs.YtgjkgkgieeoalaaGreat
def IntP (ts : List TermD) : Prop := ∀ t ∈ ts, ∃ n : Int, t.c = ofD n
def mass : List TermD → Nat
 | [] => 0
 | t :: ts => val t.c.num + mass ts
theorem val_ofD (n : Int) : val (ofD n).num = n.natAbs := val_limbs _
theorem mass_app (a b : List TermD) : mass (a ++ b) = mass a + mass b := by
 induction a with
 | nil => simp [mass]
 | cons t a ih => simp only [List.cons_append, mass, ih]; omega
theorem mass_perm {a b : List TermD} (h : a.Perm b) : mass a = mass b := by
 induction h with
 | nil => rfl
 | cons t _ ih => simp only [mass, ih]
 | swap s t l => simp only [mass]; omega
 | trans _ _ h1 h2 => exact h1.trans h2
theorem mass_filter (p : TermD → Bool) (ts : List TermD) : mass (ts.filter p) ≤ mass ts := by
 induction ts with
 | nil => exact Nat.le_refl _
 | cons t ts ih =>
   rw [List.filter_cons]
   split
   ·simp only [mass]; omega
   ·simp only [mass]; omega
theorem mass_mem {ts : List TermD} {t : TermD} (h : t ∈ ts) : val t.c.num ≤ mass ts := by
 induction ts with
 | nil => cases h
 | cons s ts ih =>
   simp only [mass]
   rcases List.mem_cons.1 h with rfl | h
   ·omega
   ·have := ih h; omega
theorem mass_setM {al : List TermD} (hk : al.Pairwise fun p q => p.m ≠ q.m) {p : TermD} (hp : p ∈ al) (c : RatD) : mass (setM al p.m c) + val p.c.num = mass al + val c.num := by
 induction al with
 | nil => cases hp
 | cons q r ih =>
   obtain ⟨h1, h2⟩ := List.pairwise_cons.1 hk
   have e : setM (q :: r) p.m c = (if q.m = p.m then ⟨c, p.m⟩ else q) :: setM r p.m c := rfl
   rcases List.mem_cons.1 hp with rfl | hp
   ·rw [e, if_pos rfl, setM_far (fun s hs => fun h => h1 s hs h.symm)]
    simp only [mass]
    omega
   ·rw [e, if_neg (h1 p hp)]
    simp only [mass]
    have := ih h2 hp
    omega
theorem IntP.hd {t : TermD} {ts : List TermD} (h : IntP (t :: ts)) : ∃ n : Int, t.c = ofD n := h t (by simp)
theorem IntP.tl {t : TermD} {ts : List TermD} (h : IntP (t :: ts)) : IntP ts := fun s hs => h s (by simp [hs])
theorem IntP.nil : IntP [] := fun _ h => by cases h
theorem IntP.cons {t : TermD} {ts : List TermD} (h : ∃ n : Int, t.c = ofD n) (hs : IntP ts) : IntP (t :: ts) := fun s hm => by
 rcases List.mem_cons.1 hm with rfl | hm
 ·exact h
 ·exact hs s hm
theorem IntP.app {a b : List TermD} (h : IntP a) (h' : IntP b) : IntP (a ++ b) := fun s hm => by
 rcases List.mem_append.1 hm with hm | hm
 ·exact h s hm
 ·exact h' s hm
theorem IntP.good {ts : List TermD} (h : IntP ts) (hg : GoodM ts) (hm : mass ts < 4611686018427387904) : GoodP ts := fun t ht => by
 obtain ⟨n, e⟩ := h t ht
 have := mass_mem ht
 rw [e, val_ofD] at this
 exact ⟨by rw [e]; exact ofD_small (by omega), hg t ht⟩
theorem putD_int {o : Int} {al : List TermD} {t : TermD} (h : Sta o al) (hi : IntP al) (ht : ∃ n : Int, t.c = ofD n) (hm : mass al + val t.c.num < 4611686018427387904) :
    (putD o al t).1 = 0 ∧ IntP (putD o al t).2 ∧ mass (putD o al t).2 ≤ mass al + val t.c.num ∧ ∀ s ∈ (putD o al t).2, s.m = t.m ∨ ∃ r ∈ al, r.m = s.m := by
 obtain ⟨b, eb⟩ := ht
 have vb := val_ofD b
 rw [← eb] at vb
 unfold putD
 by_cases hh : hasM al t.m = true
 ·rw [if_pos hh]
  obtain ⟨p, hp, em, ec⟩ := getM_of hh
  obtain ⟨a, ea⟩ := hi p hp
  have va := val_ofD a
  rw [← ea] at va
  have hpm := mass_mem hp
  rw [ec, ea, eb, addD_int (by omega) (by omega)]
  simp only [ne_eq, not_true, if_false]
  refine ⟨trivial, fun s hs => ?_, ?_, fun s hs => ?_⟩
  ·rcases (mem_setM hh).1 hs with rfl | ⟨hs, _⟩
   ·exact ⟨_, rfl⟩
   ·exact hi s hs
  ·have := mass_setM h.keys hp (ofD (a + b))
   rw [em, val_ofD] at this
   rw [eb] at vb
   omega
  ·rcases (mem_setM hh).1 hs with rfl | ⟨hs, _⟩
   ·exact .inl rfl
   ·exact .inr ⟨s, hs, rfl⟩
 ·rw [if_neg hh]
  refine ⟨rfl, fun s hs => ?_, ?_, fun s hs => ?_⟩
  ·rcases mem_insD.1 hs with rfl | hs
   ·exact ⟨b, eb⟩
   ·exact hi s hs
  ·rw [mass_perm (insD_perm o t al)]
   simp only [mass]
   omega
  ·rcases mem_insD.1 hs with rfl | hs
   ·exact .inl rfl
   ·exact .inr ⟨s, hs, rfl⟩
theorem putAll_int {o : Int} : ∀ (ts al : List TermD), Sta o al → IntP al → GoodM ts → IntP ts → mass al + mass ts < 4611686018427387904 →
    (putAll o al ts).1 = 0 ∧ IntP (putAll o al ts).2 ∧ mass (putAll o al ts).2 ≤ mass al + mass ts ∧ ∀ s ∈ (putAll o al ts).2, (∃ r ∈ ts, r.m = s.m) ∨ ∃ r ∈ al, r.m = s.m
 | [], al, h, hi, _, _, _ => ⟨rfl, hi, by simp [putAll, mass], fun s hs => .inr ⟨s, hs, rfl⟩⟩
 | t :: ts, al, h, hi, hg, ht, hm => by
   simp only [mass] at hm
   obtain ⟨a1, a2, a3, a4⟩ := putD_int h hi ht.hd (by omega)
   unfold putAll
   rw [if_neg (by simpa using a1)]
   obtain ⟨b1, b2, b3, b4⟩ := putAll_int ts _ (h.putD (hg t (by simp)) a1) a2 (fun s hs => hg s (by simp [hs])) ht.tl (by omega)
   refine ⟨b1, b2, by simp only [mass]; omega, fun s hs => ?_⟩
   rcases b4 s hs with ⟨r, hr, e⟩ | ⟨r, hr, e⟩
   ·exact .inl ⟨r, by simp [hr], e⟩
   ·rcases a4 r hr with h' | ⟨q, hq, e'⟩
    ·exact .inl ⟨t, by simp, by rw [← e, h']⟩
    ·exact .inr ⟨q, hq, e'.trans e⟩
def polSum (o : Int) (ts : List TermD) : List TermD := (putAll o [] ts).2.filter nz
structure Ints (M : Nat) (ts : List TermD) : Prop where
 int : IntP ts
 good : GoodM ts
 mass : mass ts ≤ M
theorem Ints.nil : Ints 0 [] := ⟨.nil, (fun _ h => by cases h), Nat.le_refl _⟩
theorem Ints.le {M N : Nat} {ts : List TermD} (h : Ints M ts) (hn : M ≤ N) : Ints N ts := ⟨h.1, h.2, Nat.le_trans h.3 hn⟩
theorem Ints.app {M N : Nat} {a b : List TermD} (h : Ints M a) (h' : Ints N b) : Ints (M + N) (a ++ b) :=
 ⟨h.1.app h'.1, fun s hs => (List.mem_append.1 hs).elim (h.2 s) (h'.2 s), by rw [mass_app]; have := h.3; have := h'.3; omega⟩
theorem Ints.one {n : Int} {m : MonD} (hm : monMay m = true) : Ints n.natAbs [⟨ofD n, m⟩] :=
 ⟨.cons ⟨n, rfl⟩ .nil, fun s hs => by
  simp only [List.mem_cons, List.not_mem_nil, or_false] at hs
  rw [hs]; exact hm, by simp [Proofs.YtgjkgkgieeoalaaGreat.mass, val_ofD]⟩
theorem Ints.goodP {M : Nat} {ts : List TermD} (h : Ints M ts) (hM : M < 4611686018427387904) : GoodP ts := h.1.good h.2 (Nat.lt_of_le_of_lt h.3 hM)
structure SumOk (o : Int) (M : Nat) (ts : List TermD) : Prop where
 make : polMake o ts = if 60 < (polSum o ts).length then (90, []) else (0, polSum o ts)
 canon : Canon o (polSum o ts)
 ints : Ints M (polSum o ts)
 lin : ∀ f, lin f (polSum o ts) = lin f ts
 mem : ∀ s ∈ polSum o ts, ∃ r ∈ ts, r.m = s.m
theorem sum_ok {o : Int} {M : Nat} {ts : List TermD} (ho : oOk o) (h : Ints M ts) (hM : M < 4611686018427387904) : SumOk o M ts := by
 have hg := h.goodP hM
 obtain ⟨b1, b2, b3, b4⟩ := putAll_int ts [] (.nil ho) .nil h.2 h.1 (by simp only [mass]; have := h.3; omega)
 obtain ⟨c1, c2, c3⟩ := putAll_ok ts [] (.nil ho) .nil hg b1
 have hcan := canon_nz c1 c2
 refine ⟨?_, hcan, ⟨fun t ht => b2 t (List.mem_filter.1 ht).1, fun t ht => (hcan.good t ht).m, ?_⟩, fun f => ?_, fun s hs => ?_⟩
 ·unfold polMake
  have hodd : anyOdd ts = false := by
   unfold anyOdd
   rw [List.any_eq_false]
   intro t ht
   rw [(hg t ht).right]; simp
  rw [hodd, ordered_ok.2 ho, if_neg (by simp), if_neg (by simpa using b1)]
  rfl
 ·refine Nat.le_trans (mass_filter _ _) (Nat.le_trans b3 ?_)
  simp only [mass]
  have := h.3
  omega
 ·unfold polSum
  rw [lin_nz f c2, c3]
  simp only [Proofs.YtgjkgkgieeoalaaGreat.lin]
  grind
 ·rcases b4 s (List.mem_filter.1 hs).1 with h | ⟨r, hr, _⟩
  ·exact h
  ·cases hr
theorem SumOk.ext {o : Int} {M N : Nat} {a b : List TermD} (h : SumOk o M a) (h' : SumOk o N b) (e : ∀ f, Proofs.YtgjkgkgieeoalaaGreat.lin f a = Proofs.YtgjkgkgieeoalaaGreat.lin f b) : polSum o a = polSum o b :=
 canon_ext h.canon h'.canon fun f => by rw [h.lin, h'.lin, e]
theorem SumOk.eq {o : Int} {M : Nat} {a p : List TermD} (h : SumOk o M a) (hp : Canon o p) (e : ∀ f, Proofs.YtgjkgkgieeoalaaGreat.lin f a = Proofs.YtgjkgkgieeoalaaGreat.lin f p) (hl : p.length ≤ 60) : polMake o a = (0, p) := by
 have : polSum o a = p := canon_ext h.canon hp fun f => by rw [h.lin, e]
 rw [h.make, this, if_neg (by omega)]
theorem canon_may {o : Int} {p : List TermD} (h : Canon o p) (hl : p.length ≤ 60) : polMay o p = true := by
 unfold polMay
 rw [Bool.and_eq_true, List.all_eq_true]
 refine ⟨fun i hi => ?_, by rw [ordered_ok.2 h.sta.ord, decide_eq_true hl]; rfl⟩
 have hi := List.mem_range.1 hi
 have hget : p[i]? = some p[i] := List.getElem?_eq_getElem hi
 have hmem : p[i] ∈ p := List.getElem_mem hi
 rw [okAt_of hget, (h.good _ hmem).c.may, (h.good _ hmem).m]
 have hz := h.nz _ hmem
 unfold nz at hz
 rw [hz]
 by_cases h0 : i = 0
 ·simp [h0]
 ·have : 0 < monCmp o (p.getD (i - 1) tz).m p[i].m := by
    rw [List.getD_eq_getElem?_getD, List.getElem?_eq_getElem (by omega)]
    exact (List.pairwise_iff_getElem.1 h.sta.fall) (i - 1) i (by omega) hi (by omega)
  rw [decide_eq_true this]; simp
theorem polAdd_int {o : Int} {ps : List (List TermD)} (h : ∀ p ∈ ps, Canon o p ∧ p.length ≤ 60) : polAdd o ps = polMake o ps.flatten := by
 unfold polAdd
 rw [show ps.all (polMay o) = true by rw [List.all_eq_true]; exact fun p hp => canon_may (h p hp).1 (h p hp).2, if_neg (by simp)]
def mulT (s t : TermD) : TermD := ⟨(mulD s.c t.c).2, addM s.m t.m⟩
def Fits (p : List TermD) (m : MonD) : Prop := ∀ s ∈ p, monMay (addM s.m m) = true
theorem addM_comm (a b : MonD) : addM a b = addM b a := by
 unfold addM
 rw [Int.add_comm a.x0, Int.add_comm a.x1, Int.add_comm a.x2, Int.add_comm a.x3]
structure Pol (o : Int) (M : Nat) (p : List TermD) : Prop where
 ints : Ints M p
 canon : Canon o p
 len : p.length ≤ 60
theorem Pol.may {o : Int} {M : Nat} {p : List TermD} (h : Pol o M p) : polMay o p = true := canon_may h.canon h.len
theorem SumOk.pol {o : Int} {M : Nat} {ts : List TermD} (h : SumOk o M ts) (hl : (polMake o ts).1 = 0) : Pol o M (polMake o ts).2 ∧ polMake o ts = (0, polSum o ts) := by
 have h1 := h.make
 split at h1
 ·rw [h1] at hl; cases hl
 ·rename_i h6
  rw [h1]
  exact ⟨⟨h.ints, h.canon, Nat.le_of_not_lt h6⟩, rfl⟩
def Low (k : Int) (ts : List TermD) : Prop := ∀ t ∈ ts, (0 ≤ t.m.x0 ∧ t.m.x0 ≤ k) ∧ (0 ≤ t.m.x1 ∧ t.m.x1 ≤ k) ∧ (0 ≤ t.m.x2 ∧ t.m.x2 ≤ k) ∧ (0 ≤ t.m.x3 ∧ t.m.x3 ≤ k)
theorem monMay_low {m : MonD} (h : (0 ≤ m.x0 ∧ m.x0 ≤ 40) ∧ (0 ≤ m.x1 ∧ m.x1 ≤ 40) ∧ (0 ≤ m.x2 ∧ m.x2 ≤ 40) ∧ (0 ≤ m.x3 ∧ m.x3 ≤ 40)) : monMay m = true := by
 unfold monMay MonD.l
 simp only [List.any_cons, List.any_nil, badE]
 simp
 omega
theorem Low.fits {j k : Int} {p q : List TermD} (hp : Low j p) (hq : Low k q) (h : j + k ≤ 40) : ∀ t ∈ q, Fits p t.m := fun t ht s hs => by
 have h1 := hp s hs
 have h2 := hq t ht
 refine monMay_low ?_
 simp only [addM]
 omega
theorem Low.sum {k : Int} {o : Int} {M : Nat} {ts : List TermD} (h : Low k ts) (hs : SumOk o M ts) : Low k (polSum o ts) := fun t ht => by
 obtain ⟨r, hr, e⟩ := hs.mem t ht
 rw [← e]
 exact h r hr
theorem Low.app {k : Int} {a b : List TermD} (h : Low k a) (h' : Low k b) : Low k (a ++ b) := fun s hs => (List.mem_append.1 hs).elim (h s) (h' s)
theorem putD_size (o : Int) (al : List TermD) (t : TermD) : (putD o al t).2.length ≤ al.length + 1 := by
 unfold putD
 split
 ·split
  ·simp
  ·simp [setM]
 ·rw [(insD_perm o t al).length_eq]; simp
theorem putAll_size (o : Int) : ∀ (ts al : List TermD), (putAll o al ts).2.length ≤ al.length + ts.length
 | [], al => by simp [putAll]
 | t :: ts, al => by
   unfold putAll
   split
   ·simp
   ·have h1 := putAll_size o ts (putD o al t).2
    have h2 := putD_size o al t
    simp only [List.length_cons]
    omega
theorem polSum_len (o : Int) (ts : List TermD) : (polSum o ts).length ≤ ts.length := by
 unfold polSum
 have h1 := putAll_size o ts []
 have h2 := List.length_filter_le nz (putAll o [] ts).2
 simp only [List.length_nil] at h1
 omega
structure Sm (ts : List TermD) : Prop where
 ints : Ints 1280 ts
 low : Low 3 ts
 len : ts.length ≤ 10
structure SmP (o : Int) (p : List TermD) : Prop where
 pol : Pol o 1280 p
 low : Low 3 p
 len : p.length ≤ 10
theorem Sm.make {o : Int} (ho : oOk o) {ts : List TermD} (h : Sm ts) : SmP o (polMake o ts).2 ∧ (polMake o ts).1 = 0 := by
 have hs := sum_ok ho h.ints (by decide)
 have hl := polSum_len o ts
 have h10 := h.len
 have e : polMake o ts = (0, polSum o ts) := by rw [hs.make, if_neg (by omega)]
 obtain ⟨h1, _⟩ := hs.pol (by rw [e])
 rw [e] at h1 ⊢
 exact ⟨⟨h1, h.low.sum hs, by show (polSum o ts).length ≤ 10; omega⟩, rfl⟩
theorem SmP.fits {o : Int} {p q : List TermD} (hp : SmP o p) (hq : SmP o q) : ∀ t ∈ q, Fits p t.m := hp.low.fits hq.low (by decide)
section
variable {o : Int} {p q r : List TermD}
theorem zero_add (hp : SmP o p) : polAdd o [p, [], []] = (0, p) := by
 have ho := hp.pol.canon.sta.ord
 rw [polAdd_int (by simp [hp.pol.canon, hp.pol.len, canon_nil ho]), show [p, [], []].flatten = p by simp]
 exact (sum_ok ho hp.pol.ints (by decide)).eq hp.pol.canon (fun f => rfl) hp.pol.len
theorem zero_mul (hp : SmP o p) : polMul o p [] = (0, []) := by
 have ho := hp.pol.canon.sta.ord
 unfold polMul
 rw [hp.pol.may, canon_may (canon_nil ho) (by simp)]
 exact (sum_ok ho Ints.nil (by decide)).eq (canon_nil ho) (fun f => rfl) (by simp)
theorem addM_zero (m : MonD) : addM m zeroM = m := by unfold addM zeroM; simp
theorem monMay_zero : monMay zeroM = true := by decide
end
end Go.Proofs.YtgjkgkgieeoalaaGreat
namespace Go.Proofs.YtgjkgkgieeoalaaGreat
open Go.RowKit
def smT (n : Int) (m : Int × Int × Int) : TermD := ⟨ofD n, ⟨m.1.tmod 4, m.2.1.tmod 4, m.2.2.tmod 4, 0⟩⟩
def smL (ns : List Int) (ms : List (Int × Int × Int)) : List TermD := ((ns.zip ms).take 10).map fun x => smT x.1 x.2
def flat3 (ms : List (Int × Int × Int)) : List Value := ms.flatMap fun m => [.int .u8 m.1, .int .u8 m.2.1, .int .u8 m.2.2]
structure RSm (w : World) (A : Option Addr) (c : Nat) (B : Option Addr) (d : Nat) (ns : List Int) (ms : List (Int × Int × Int)) : Prop where
 n : Rd w w.heap.size 1 A ns.length (ints .i8 ns)
 m : Rd w w.heap.size 3 B ms.length (flat3 ms)
 nc : ns.length ≤ c
 md : ms.length ≤ d
 nb : ∀ x ∈ ns, -128 ≤ x ∧ x ≤ 127
 mb : ∀ x ∈ ms, (0 ≤ x.1 ∧ x.1 ≤ 255) ∧ (0 ≤ x.2.1 ∧ x.2.1 ≤ 255) ∧ (0 ≤ x.2.2 ∧ x.2.2 ≤ 255)
theorem smT_sm {n : Int} {m : Int × Int × Int} (hn : -128 ≤ n ∧ n ≤ 127) (hm : (0 ≤ m.1 ∧ m.1 ≤ 255) ∧ (0 ≤ m.2.1 ∧ m.2.1 ≤ 255) ∧ (0 ≤ m.2.2 ∧ m.2.2 ≤ 255)) : Ints 128 [smT n m] ∧ Low 3 [smT n m] := by
 have key : ∀ x : Int, 0 ≤ x → 0 ≤ x.tmod 4 ∧ x.tmod 4 ≤ 3 := fun x hx => by
  rw [Int.tmod_eq_emod_of_nonneg hx]; omega
 have k1 := key _ hm.1.1
 have k2 := key _ hm.2.1.1
 have k3 := key _ hm.2.2.1
 refine ⟨(Ints.one (monMay_low ?_)).le (by omega), fun s hs => ?_⟩
 ·simp only []
  omega
 ·simp only [List.mem_cons, List.not_mem_nil, or_false] at hs
  rw [hs]
  simp only [smT]
  omega
theorem smL_sm {w : World} {A B : Option Addr} {c d : Nat} {ns : List Int} {ms : List (Int × Int × Int)} (h : RSm w A c B d ns ms) : Sm (smL ns ms) := by
 have hb : ∀ x ∈ (ns.zip ms).take 10, (-128 ≤ x.1 ∧ x.1 ≤ 127) ∧ (0 ≤ x.2.1 ∧ x.2.1 ≤ 255) ∧ (0 ≤ x.2.2.1 ∧ x.2.2.1 ≤ 255) ∧ (0 ≤ x.2.2.2 ∧ x.2.2.2 ≤ 255) := fun x hx => by
  have hx := List.mem_of_mem_take hx
  have h1 := List.of_mem_zip (a := x.1) (b := x.2) hx
  exact ⟨h.nb _ h1.1, h.mb _ h1.2⟩
 have hl : ((ns.zip ms).take 10).length ≤ 10 := by rw [List.length_take]; omega
 unfold smL
 generalize (ns.zip ms).take 10 = l at hb hl ⊢
 have key : Ints (128 * l.length) (l.map fun x => smT x.1 x.2) ∧ Low 3 (l.map fun x => smT x.1 x.2) := by
  clear hl
  induction l with
  | nil => exact ⟨Ints.nil, fun s hs => by cases hs⟩
  | cons x l ih =>
    obtain ⟨h1, h2⟩ := ih fun y hy => hb y (by simp [hy])
    obtain ⟨h3, h4⟩ := smT_sm (hb x (by simp)).1 (hb x (by simp)).2
    refine ⟨?_, h4.app h2⟩
    have := h3.app h1
    rw [List.length_cons, Nat.mul_add, Nat.add_comm (128 * l.length)]
    exact this
 exact ⟨key.1.le (by omega), key.2, by rw [List.length_map]; exact hl⟩
section
variable {P : Program} {ops : Array Oper} {Q : Exit → Act → World → Prop} {md : Region.Mode} {S : World → Prop} {n : Nat}
def wpAnyX (P : Program) (md : Region.Mode) (ops : Array Oper) (Q : Exit → Act → World → Prop) (S : World → Prop) (n : Nat) : Nat → Array Bool → Act → World → Prop
 | 0, listed, a, w => Region.ready md ops listed = [] ∧ Q .normal a w
 | fuel + 1, listed, a, w => (Region.ready md ops listed = [] → Q .normal a w) ∧
   ∀ i ∈ Region.ready md ops listed, wpOp P ops Q i (fun a' w' => (i < n → S w') ∧ wpAnyX P md ops Q S n fuel (listed.setIfInBounds i true) a' w') a w
theorem wpAny_of_X : ∀ (fuel : Nat) (listed : Array Bool) (a : Act) (w : World), wpAnyX P md ops Q S n fuel listed a w → wpAny P md ops Q fuel listed a w
 | 0, _, _, _, h => h
 | fuel + 1, _, _, _, h => ⟨h.1, fun i hi => wpOp_mono (fun a' w' h' => wpAny_of_X fuel _ a' w' h'.2) (h.2 i hi)⟩
theorem wpAnyX_first {i : Nat} {oi : Oper} {v : Value} (hi : ops[i]? = some oi) (hsel : ∀ (j : Nat) (o : Oper) cs b, ops[j]? = some o → o.op ≠ .select cs b)
    (hQ : ∀ c a w, Q (.panic c) (a.put oi.dst v) w → Q (.panic c) a w) (hwait : ∀ j, n ≤ j → j < ops.size → Region.waitsFor md ops j i = true) :
    ∀ (fuel : Nat) (listed : Array Bool) (a : Act) (w : World),
     (∀ j oj, ops[j]? = some oj → j ≠ i → listed.getD j true = false → (∀ e ∈ oj.after, Region.binds md e = true → e.on ≠ i) → oi.apart ops oj = true) →
     i ∈ Region.ready md ops listed → YieldsIf P ops S oi v a → S w →
     wpAnyX P md ops Q S n fuel (listed.setIfInBounds i true) (a.put oi.dst v) w → wpAnyX P md ops Q S n (fuel + 1) listed a w := by
 intro fuel
 induction fuel with
 | zero =>
   intro listed a w _ hr hy hS H
   refine ⟨fun h => (by rw [h] at hr; cases hr), fun j hj => ?_⟩
   by_cases hji : j = i
   ·subst hji; exact hy.wpOp hi hS ⟨fun _ => hS, H⟩
   ·have := ready_mono hj hji
    rw [H.1] at this
    cases this
 | succ fuel ih =>
   intro listed a w hfree hr hy hS H
   refine ⟨fun h => (by rw [h] at hr; cases hr), fun j hj => ?_⟩
   by_cases hji : j = i
   ·subst hji; exact hy.wpOp hi hS ⟨fun _ => hS, H⟩
   ·have h1 := H.2 j (ready_mono hj hji)
    obtain ⟨hjun, oj, hoj, hall⟩ := mem_ready.1 hj
    have hnot : ∀ e ∈ oj.after, Region.binds md e = true → e.on ≠ i := fun e he hb heq => by
     have h1 := hall e he hb
     have h0 := (mem_ready.1 hr).1
     rw [heq] at h1
     rcases Nat.lt_or_ge i listed.size with h' | h'
     ·simp [h'] at h0 h1; rw [h0] at h1; cases h1
     ·simp [Array.getElem?_eq_none h'] at h1
    have hjn : j < n := by
     rcases Nat.lt_or_ge j n with h' | h'
     ·exact h'
     ·obtain ⟨oj', hoj', e, he, hb, hon⟩ := Region.waitsFor_spec (hwait j h' (Array.getElem?_eq_some_iff.1 hoj).1)
      rw [hoj] at hoj'
      injection hoj' with hoj'
      subst hoj'
      exact absurd hon (hnot e he hb)
    have h2 := wpOp_putIf hoj (hfree j oj hoj hji hjun hnot) (fun cs b => hsel i oi cs b hi) (fun cs b => hsel j oj cs b hoj) hQ hy h1
    have hfree' : ∀ k ok, ops[k]? = some ok → k ≠ i → (listed.setIfInBounds j true).getD k true = false →
        (∀ e ∈ ok.after, Region.binds md e = true → e.on ≠ i) → oi.apart ops ok = true := fun k ok hk hki hun hno => by
     refine hfree k ok hk hki ?_ hno
     by_cases hjk : j = k
     ·subst hjk; exact hjun
     ·rw [getD_set_ne true hjk] at hun; exact hun
    refine wpOp_mono (fun a' w' h3 => ⟨h3.2.1, ih (listed.setIfInBounds j true) a' w' hfree' (ready_mono hr (Ne.symm hji)) h3.1 (h3.2.1 hjn) ?_⟩) h2
    rw [Array.setIfInBounds_comm _ _ hji]
    exact h3.2.2
def wpHead (P : Program) (ops : Array Oper) (S : World → Prop) (K : Act → Prop) : List Oper → Act → Prop
 | [], a => K a
 | o :: rest, a => ∃ v, YieldsIf P ops S o v a ∧ wpHead P ops S K rest (a.put o.dst v)
theorem wpHead_nil {K : Act → Prop} {a : Act} (h : K a) : wpHead P ops S K [] a := h
def wpTail (P : Program) (ops : Array Oper) (Q : Exit → Act → World → Prop) (S : World → Prop) (n : Nat) : Nat → List Oper → Act → World → Prop
 | _, [], a, w => Q .normal a w
 | k, o :: rest, a, w => if Region.wanted o (yielded ops a.tmps) = true then o.wp P a w (fun a' w' => (k < n → S w') ∧ wpTail P ops Q S n (k + 1) rest a' w') Q else (k < n → S w) ∧ wpTail P ops Q S n (k + 1) rest (a.put o.dst undef) w
theorem wpTail_nil {k : Nat} {a : Act} {w : World} (h : Q .normal a w) : wpTail P ops Q S n k [] a w := h
theorem wpTail_step {k : Nat} {o : Oper} {rest : List Oper} {a : Act} {w : World}
    (h : ∀ K : Act → World → Prop, (∀ a' w', (k < n → S w') → wpTail P ops Q S n (k + 1) rest a' w' → K a' w') → if Region.wanted o (yielded ops a.tmps) = true then o.wp P a w K Q else K (a.put o.dst undef) w) : wpTail P ops Q S n k (o :: rest) a w :=
 h _ fun _ _ h1 h2 => ⟨h1, h2⟩
theorem wpAnyX_seq : ∀ (l : List Oper) (k : Nat) (listed : Array Bool) (a : Act) (w : World), (∀ j, l[j]? = ops[k + j]?) → Region.seqB md ops l.length k listed = true → wpTail P ops Q S n k l a w → wpAnyX P md ops Q S n l.length listed a w
 | [], _, _, _, _, _, hB, h => ⟨by simpa [Region.seqB] using hB, h⟩
 | o :: l, k, listed, a, w, hl, hB, h => by
   have h0 : ops[k]? = some o := by simpa using (hl 0).symm
   simp only [List.length_cons, Region.seqB, Bool.and_eq_true, decide_eq_true_eq] at hB
   refine ⟨fun h1 => (by rw [hB.1] at h1; cases h1), fun i hi => ?_⟩
   rw [hB.1] at hi
   have hik : i = k := by simpa using hi
   subst hik
   have hw : wpOp P ops Q i (fun a' w' => (i < n → S w') ∧ wpTail P ops Q S n (i + 1) l a' w') a w := by
    have h' : (if Region.wanted o (yielded ops a.tmps) = true then o.wp P a w (fun a' w' => (i < n → S w') ∧ wpTail P ops Q S n (i + 1) l a' w') Q else (i < n → S w) ∧ wpTail P ops Q S n (i + 1) l (a.put o.dst undef) w) := h
    unfold wpOp
    simp only [h0]
    split
    ·rename_i hw; rw [if_pos hw] at h'; exact .inl h'
    ·rename_i hw; rw [if_neg hw] at h'; exact h'
   exact wpOp_mono (fun a' w' h' => ⟨h'.1, wpAnyX_seq l (i + 1) _ a' w' (fun j => by have := hl (j + 1); simpa [Nat.add_assoc, Nat.add_comm 1 j] using this) hB.2 h'.2⟩) hw
theorem wpAnyX_head {tail : List Oper} (hs : Region.noSelect ops = true) (hQ : ∀ c a d v w, Q (.panic c) (a.put d v) w → Q (.panic c) a w) (m : Nat) (hwait : ∀ i, i < m → ∀ j, n ≤ j → j < ops.size → Region.waitsFor md ops j i = true) (htl : ∀ j, tail[j]? = ops[m + j]?) :
    ∀ (l : List Oper) (k : Nat) (listed : Array Bool) (a : Act) (w : World), k + l.length = m → (∀ j, j < l.length → l[j]? = ops[k + j]?) → S w → Region.lexHead md ops tail.length l.length k listed = true →
     wpHead P ops S (fun a' => wpTail P ops Q S n m tail a' w) l a → wpAnyX P md ops Q S n (tail.length + l.length) listed a w
 | [], k, listed, a, w, hk, _, _, hB, h => by
   have : k = m := by simpa using hk
   subst this
   exact wpAnyX_seq tail k listed a w htl (by simpa [Region.lexHead] using hB) h
 | o :: l, k, listed, a, w, hk, hl, hS, hB, h => by
   have h0 : ops[k]? = some o := by simpa using (hl 0 (by simp)).symm
   simp only [List.length_cons, Region.lexHead, Bool.and_eq_true] at hB
   obtain ⟨⟨hr, hf⟩, hB'⟩ := hB
   obtain ⟨v, hy, hK⟩ := h
   have hkm : k < m := by simp only [List.length_cons] at hk; omega
   refine wpAnyX_first h0 (Region.noSelect_spec hs) (fun c a w h => hQ c a _ _ w h) (hwait k hkm) (tail.length + l.length) listed a w (Region.free_spec h0 hf) (by simpa using hr) hy hS ?_
   exact wpAnyX_head hs hQ m hwait htl l (k + 1) _ _ w (by simp only [List.length_cons] at hk; omega) (fun j hj => by have := hl (j + 1) (by simp; omega); simpa [Nat.add_assoc, Nat.add_comm 1 j] using this) hS hB' hK
def headB (ops : Array Oper) (m n : Nat) : Bool :=
 Region.noSelect ops && decide (m ≤ ops.size) && ((List.range m).all fun i => (List.range ops.size).all fun j => decide (j < n) || Region.waitsFor .any ops j i) && Region.lexHead .any ops (ops.size - m) m 0 (Array.replicate ops.size false)
theorem wp_region_head {id : Nat} {a : Act} {w : World} {l : List Oper} (m n : Nat) (S : World → Prop) (hm : P.follows .mixedOrders = true) (hB : headB l.toArray m n = true) (hQ : ∀ c a d v w, Q (.panic c) (a.put d v) w → Q (.panic c) a w) (hS : S w.drew)
    (h : wpHead P l.toArray S (fun a' => wpTail P l.toArray Q S n m (l.drop m) a' w.drew) (l.take m) a) : (Code.region id l.toArray true).wp P Q a w := by
 unfold headB at hB
 simp only [Bool.and_eq_true, decide_eq_true_eq] at hB
 obtain ⟨⟨⟨hsel, hms⟩, hwt⟩, hlex⟩ := hB
 have hms' : m ≤ l.length := by simpa using hms
 have htk : (l.take m).length = m := by rw [List.length_take]; omega
 have hdr : (l.drop m).length = l.toArray.size - m := by simp
 refine wp_region_any hm (wpAny_of_X (S := S) (n := n) _ _ _ _ ?_)
 have hwait : ∀ i, i < m → ∀ j, n ≤ j → j < l.toArray.size → Region.waitsFor .any l.toArray j i = true := fun i hi j hj hjs => by
  have h1 := List.all_eq_true.1 (List.all_eq_true.1 hwt i (List.mem_range.2 hi)) j (List.mem_range.2 hjs)
  simp only [Bool.or_eq_true, decide_eq_true_eq] at h1
  exact h1.resolve_left (by omega)
 have := wpAnyX_head (P := P) (Q := Q) (md := .any) (S := S) (n := n) (tail := l.drop m) hsel hQ m hwait (fun j => by simp [List.getElem?_drop]) (l.take m) 0 (Array.replicate l.toArray.size false) a w.drew (by rw [htk, Nat.zero_add])
  (fun j hj => by rw [htk] at hj; simp [hj]) hS (by rw [hdr, htk]; exact hlex) h
 rw [hdr, htk, show l.toArray.size - m + m = l.toArray.size by omega] at this
 exact this
end
section
variable {P : Program} {ops : Array Oper} {Q : Exit → Act → World → Prop} {md : Region.Mode} {n : Nat}
theorem wpAnyX_true : ∀ (fuel : Nat) (listed : Array Bool) (a : Act) (w : World), wpAny P md ops Q fuel listed a w → wpAnyX P md ops Q (fun _ => True) n fuel listed a w
 | 0, _, _, _, h => h
 | fuel + 1, _, _, _, h => ⟨h.1, fun i hi => wpOp_mono (fun a' w' h' => ⟨fun _ => trivial, wpAnyX_true fuel _ a' w' h'⟩) (h.2 i hi)⟩
def midB (ops : Array Oper) : Bool :=
 let l0 := Array.replicate ops.size false
 let l1 := l0.setIfInBounds 0 true
 let l2 := l1.setIfInBounds 2 true
 let l3 := l2.setIfInBounds 1 true
 Region.noSelect ops && decide (3 ≤ ops.size) && Region.free .any ops l0 0 && (Region.ready .any ops l0).contains 0 && Region.free .any ops l1 2 && (Region.ready .any ops l1).contains 2 && decide (Region.ready .any ops l2 = [1]) && Region.lexFrom .any ops (ops.size - 3) 3 l3
theorem wp_region_mid {id : Nat} {a : Act} {w : World} {o0 o1 o2 : Oper} {l : List Oper} (hm : P.follows .mixedOrders = true) (hB : midB (o0 :: o1 :: o2 :: l).toArray = true) (hQ : ∀ c a d v w, Q (.panic c) (a.put d v) w → Q (.panic c) a w) (v0 v2 : Value) (hg : o1.guard = none)
    (h0 : YieldsIf P (o0 :: o1 :: o2 :: l).toArray (fun _ => True) o0 v0 a) (h2 : YieldsIf P (o0 :: o1 :: o2 :: l).toArray (fun _ => True) o2 v2 (a.put o0.dst v0))
    (h1 : ∀ K : Act → World → Prop, (∀ a' w', (∃ C : World → Prop, C w' ∧ wpQuiet P (o0 :: o1 :: o2 :: l).toArray C (fun a'' => ∀ w'', C w'' → Q .normal a'' w'') l a') → K a' w') → o1.wp P ((a.put o0.dst v0).put o2.dst v2) w.drew K Q) :
    (Code.region id (o0 :: o1 :: o2 :: l).toArray true).wp P Q a w := by
 unfold midB at hB
 simp only [Bool.and_eq_true, decide_eq_true_eq, List.contains_iff_mem] at hB
 obtain ⟨⟨⟨⟨⟨⟨⟨hsel, hsz⟩, f0⟩, r0⟩, f2⟩, r2⟩, r1⟩, hlex⟩ := hB
 have hsize : (o0 :: o1 :: o2 :: l).toArray.size = l.length + 3 := by simp
 refine wp_region_any hm (wpAny_of_X (S := fun _ => True) (n := (o0 :: o1 :: o2 :: l).toArray.size) _ _ _ _ ?_)
 have e0 : (o0 :: o1 :: o2 :: l).toArray[0]? = some o0 := by simp
 have e1 : (o0 :: o1 :: o2 :: l).toArray[1]? = some o1 := by simp
 have e2 : (o0 :: o1 :: o2 :: l).toArray[2]? = some o2 := by simp
 refine (show wpAnyX P _ _ _ _ _ (l.length + 3) _ _ _ from ?_)
 refine wpAnyX_first e0 (Region.noSelect_spec hsel) (fun c a w h => hQ c a _ _ w h) (fun j hj hj2 => absurd hj2 (Nat.not_lt.2 hj)) (l.length + 2) _ a w.drew (Region.free_spec e0 f0) r0 h0 trivial ?_
 refine wpAnyX_first e2 (Region.noSelect_spec hsel) (fun c a w h => hQ c a _ _ w h) (fun j hj hj2 => absurd hj2 (Nat.not_lt.2 hj)) (l.length + 1) _ _ _ (Region.free_spec e2 f2) r2 h2 trivial ?_
 refine wpAnyX_true _ _ _ _ ⟨fun h => (by rw [r1] at h; cases h), fun i hi => ?_⟩
 rw [r1, List.mem_singleton] at hi
 subst hi
 unfold wpOp
 simp only [e1, Region.wanted, hg, if_true]
 refine .inl (h1 _ fun a' w' hC => ?_)
 obtain ⟨C, hw, hq⟩ := hC
 refine wpAny_of_quiet (C := C) (Q := fun a'' => ∀ w'', C w'' → Q .normal a'' w'') (fun a'' w'' hw'' h => h w'' hw'') _ _ _ _ hw ?_
 exact wpAnyQ_lex hsel l 3 _ _ (fun j => by simp [Nat.add_comm 3 j]) (by simpa using hlex) hq
end
end Go.Proofs.YtgjkgkgieeoalaaGreat
