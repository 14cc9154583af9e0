/- Parts of the proof, joined: each theorem says what it shows. -/
import Derived.Test.YtgjkgkgieeoalaaGreatE01
import Derived.Test.YtgjkgkgieeoalaaGreatE13
import Derived.Test.YtgjkgkgieeoalaaGreatE14
set_option linter.unusedVariables false
set_option linter.unusedSimpArgs false
set_option maxHeartbeats 24000000
set_option maxRecDepth 100000
namespace Go.Proofs.YtgjkgkgieeoalaaGreat
def sg (neg : Bool) (n : Nat) : Int := if neg then -(n : Int) else n
def ofQ (x : Rat) : RatD := ⟨decide (x.num < 0), limbs x.num.natAbs, limbs x.den⟩
def qv (r : RatD) : Rat := mkRat (sg r.neg (val r.num)) (val r.den)
structure GoodR (r : RatD) : Prop where
 may : ratMay r = true
 un : U64 r.num
 ud : U64 r.den
def fitQ (x : Rat) : Prop := (limbs x.num.natAbs).length ≤ 8 ∧ (limbs x.den).length ≤ 8
theorem sg_abs (b : Bool) (n : Nat) : (sg b n).natAbs = n := by unfold sg; cases b <;> simp
theorem sg_mul (a b : Bool) (m n : Nat) : sg a m * sg b n = sg (a != b) (m * n) := by
 unfold sg; cases a <;> cases b <;> simp [Int.neg_mul, Int.mul_neg]
theorem sg_of (x : Int) : sg (decide (x < 0)) x.natAbs = x := by
 unfold sg
 by_cases h : x < 0
 ·rw [decide_eq_true h]; simp; omega
 ·rw [decide_eq_false h]; simp; omega
theorem qv_ofQ (x : Rat) : qv (ofQ x) = x := by
 unfold qv ofQ
 simp only [val_limbs]
 rw [sg_of, Rat.mkRat_self]
theorem mk_num (b : Bool) (n d : Nat) (hd : d ≠ 0) : (mkRat (sg b n) d).num = sg b (n / Nat.gcd n d) := by
 rw [Rat.num_mkRat, if_neg hd, sg_abs, Nat.gcd_comm d n]
 unfold sg
 cases b
 ·simp
 ·simp only [if_true]
  rw [Int.neg_ediv_of_dvd (Int.natCast_dvd_natCast.2 (Nat.gcd_dvd_left n d))]
  simp
theorem mk_den (b : Bool) (n d : Nat) (hd : d ≠ 0) : (mkRat (sg b n) d).den = d / Nat.gcd n d := by
 rw [Rat.den_mkRat, if_neg hd, sg_abs, Nat.gcd_comm d n]
theorem sg_neg (b : Bool) (n : Nat) : decide (sg b n < 0) = (b && decide (n ≠ 0)) := by
 unfold sg
 cases b
 ·simp
 ·simp only [if_true, Bool.true_and, decide_eq_decide]; omega
theorem limbs_le {m n : Nat} (h : m ≤ n) (hn : (limbs n).length ≤ 8) : (limbs m).length ≤ 8 := limbs_len.2 (Nat.lt_of_le_of_lt h (limbs_len.1 hn))
theorem ofQ_mk (b : Bool) (n d : Nat) (hd : d ≠ 0) : ofQ (mkRat (sg b n) d) = ⟨b && decide (n / Nat.gcd n d ≠ 0), limbs (n / Nat.gcd n d), limbs (d / Nat.gcd n d)⟩ := by
 unfold ofQ
 rw [mk_num b n d hd, mk_den b n d hd, sg_neg, sg_abs]
theorem fitQ_mk {b : Bool} {n d : Nat} (hd : d ≠ 0) (h1 : (limbs n).length ≤ 8) (h2 : (limbs d).length ≤ 8) : fitQ (mkRat (sg b n) d) := by
 unfold fitQ
 rw [mk_num b n d hd, mk_den b n d hd, sg_abs]
 exact ⟨limbs_le (Nat.div_le_self _ _) h1, limbs_le (Nat.div_le_self _ _) h2⟩
theorem makeD_q (b : Bool) (n d : Nat) (hd : d ≠ 0) (h1 : (limbs n).length ≤ 8) (h2 : (limbs d).length ≤ 8) : makeD b (limbs n) (limbs d) = (0, ofQ (mkRat (sg b n) d)) := by
 unfold makeD
 have h3 : (limbs d).length ≠ 0 := fun h => hd (limbs_nil.1 (List.eq_nil_of_length_eq_zero h))
 rw [limbs_may h1, limbs_may h2, if_neg (by simp), if_neg h3]
 simp only [val_limbs]
 rw [ofQ_mk b n d hd]
theorem GoodR.den {r : RatD} (h : GoodR r) : val r.den ≠ 0 := by
 obtain ⟨_, h2, h3, _, _⟩ := ratMay_of h.may
 have := natMay_posN h2 h.ud h3
 omega
theorem GoodR.nums {r : RatD} (h : GoodR r) : limbs (val r.num) = r.num ∧ limbs (val r.den) = r.den ∧ Nat.gcd (val r.num) (val r.den) = 1 := by
 obtain ⟨h1, h2, _, h4, _⟩ := ratMay_of h.may
 exact ⟨natMay_limbs h1 h.un, natMay_limbs h2 h.ud, h4⟩
theorem GoodR.zero_iff {r : RatD} (h : GoodR r) : r.num.length = 0 ↔ val r.num = 0 := by
 constructor
 ·intro h0
  rw [List.eq_nil_of_length_eq_zero h0]; rfl
 ·intro h0
  rw [← h.nums.1, h0]; exact congrArg List.length limbs_zero
theorem GoodR.eq {r : RatD} (h : GoodR r) : r = ofQ (qv r) := by
 obtain ⟨h1, h2, h3⟩ := h.nums
 obtain ⟨_, _, _, _, h5⟩ := ratMay_of h.may
 have hz := h.zero_iff
 unfold qv
 rw [ofQ_mk _ _ _ h.den, h3, Nat.div_one, Nat.div_one, h1, h2]
 cases hn : r.neg
 ·cases r; simp at hn; simp [hn]
 ·have := h5 hn
  have h6 : val r.num ≠ 0 := fun e => this (hz.2 e)
  cases r; simp at hn h6; simp [hn, h6]
theorem GoodR.inj {r s : RatD} (h : GoodR r) (h' : GoodR s) (e : qv r = qv s) : r = s := by rw [h.eq, h'.eq, e]
theorem ofQ_good {x : Rat} (h : fitQ x) : GoodR (ofQ x) := by
 refine ⟨?_, limbs_u64 _, limbs_u64 _⟩
 unfold ratMay ofQ
 have h3 : 0 < (limbs x.den).length := by
  rcases Nat.eq_zero_or_pos (limbs x.den).length with h0 | h0
  ·exact absurd (limbs_nil.1 (List.eq_nil_of_length_eq_zero h0)) x.den_nz
  ·exact h0
 simp only [val_limbs]
 have hr : Nat.gcd x.num.natAbs x.den = 1 := x.reduced
 rw [limbs_may h.1, limbs_may h.2, decide_eq_true h3, decide_eq_true hr]
 simp only [Bool.true_and, Bool.or_eq_true, Bool.not_eq_true', decide_eq_false_iff_not]
 by_cases hn : x.num < 0
 ·right
  intro h0
  have := limbs_nil.1 (List.eq_nil_of_length_eq_zero h0)
  omega
 ·left
  exact hn
theorem GoodR.nil_iff {r : RatD} (h : GoodR r) : r.num.length = 0 ↔ qv r = 0 := by
 rw [h.zero_iff]
 unfold qv
 rw [Rat.mkRat_eq_zero h.den]
 constructor
 ·intro h0; rw [h0]; unfold sg; cases r.neg <;> rfl
 ·intro h0; rw [← sg_abs r.neg (val r.num), h0]; rfl
theorem isBig_no {rs : List (List Int)} (h : ∀ r ∈ rs, r.length ≤ 8) : isBig rs = false := by
 unfold isBig
 rw [List.any_eq_false]
 intro r hr
 have := h r hr
 simp; omega
theorem sg_plus (a : Bool) (m : Nat) (b : Bool) (n : Nat) : sg (plusD a m b n).1 (plusD a m b n).2 = sg a m + sg b n := by
 unfold plusD
 cases a <;> cases b <;> (simp [sg]; try (split <;> simp <;> omega))
 all_goals omega
theorem addD_q {r s : RatD} (hr : GoodR r) (hs : GoodR s) : addD r s = (21, zeroD) ∨ (addD r s = (0, ofQ (qv r + qv s)) ∧ fitQ (qv r + qv s)) := by
 unfold addD
 rw [hr.may, hs.may, if_neg (by simp)]
 split
 ·left; rfl
 ·right
  rename_i h
  rw [Bool.not_eq_true] at h
  have l1 := isBig_not h (r := limbs (plusD r.neg (val r.num * val s.den) s.neg (val s.num * val r.den)).2) (by simp)
  have l2 := isBig_not h (r := limbs (val r.den * val s.den)) (by simp)
  have hd : val r.den * val s.den ≠ 0 := Nat.mul_ne_zero hr.den hs.den
  have he : mkRat (sg (plusD r.neg (val r.num * val s.den) s.neg (val s.num * val r.den)).1 (plusD r.neg (val r.num * val s.den) s.neg (val s.num * val r.den)).2) (val r.den * val s.den) = qv r + qv s := by
   rw [sg_plus]
   unfold qv
   rw [Rat.mkRat_add_mkRat _ _ hr.den hs.den]
   congr 1
   have a1 : sg r.neg (val r.num * val s.den) = sg r.neg (val r.num) * (val s.den : Int) := by unfold sg; cases r.neg <;> simp [Int.neg_mul]
   have a2 : sg s.neg (val s.num * val r.den) = sg s.neg (val s.num) * (val r.den : Int) := by unfold sg; cases s.neg <;> simp [Int.neg_mul]
   rw [a1, a2]
  rw [makeD_q _ _ _ hd l1 l2, he]
  refine ⟨rfl, ?_⟩
  rw [← he]
  exact fitQ_mk hd l1 l2
theorem mulD_q {r s : RatD} (hr : GoodR r) (hs : GoodR s) : mulD r s = (21, zeroD) ∨ (mulD r s = (0, ofQ (qv r * qv s)) ∧ fitQ (qv r * qv s)) := by
 unfold mulD
 rw [hr.may, hs.may, if_neg (by simp)]
 split
 ·left; rfl
 ·right
  rename_i h
  rw [Bool.not_eq_true] at h
  have l1 := isBig_not h (r := limbs (val r.num * val s.num)) (by simp)
  have l2 := isBig_not h (r := limbs (val r.den * val s.den)) (by simp)
  have hd : val r.den * val s.den ≠ 0 := Nat.mul_ne_zero hr.den hs.den
  have he : mkRat (sg (r.neg != s.neg) (val r.num * val s.num)) (val r.den * val s.den) = qv r * qv s := by
   unfold qv
   rw [Rat.mkRat_mul_mkRat, sg_mul]
  rw [makeD_q _ _ _ hd l1 l2, he]
  refine ⟨rfl, ?_⟩
  rw [← he]
  exact fitQ_mk hd l1 l2
theorem qv_num {r : RatD} (h : GoodR r) : (qv r).num = sg r.neg (val r.num) ∧ (qv r).den = val r.den := by
 unfold qv
 rw [mk_num _ _ _ h.den, mk_den _ _ _ h.den, h.nums.2.2, Nat.div_one, Nat.div_one]
 exact ⟨rfl, rfl⟩
theorem invD_q {r : RatD} (hr : GoodR r) (h0 : r.num.length ≠ 0) : invD r = (0, ofQ (qv r)⁻¹) ∧ fitQ (qv r)⁻¹ := by
 have hn : val r.num ≠ 0 := fun e => h0 (hr.zero_iff.2 e)
 obtain ⟨e1, e2⟩ := qv_num hr
 obtain ⟨h1, h2, h3⟩ := hr.nums
 obtain ⟨m1, m2, _⟩ := ratMay_of hr.may
 have hs : (sg r.neg (val r.num)).sign * ((val r.den : Nat) : Int) = sg r.neg (val r.den) := by
  unfold sg
  cases r.neg
  ·simp only [Bool.false_eq_true, if_false]
   rw [Int.sign_eq_one_of_pos (by omega), Int.one_mul]
  ·simp only [if_true]
   rw [Int.sign_eq_neg_one_of_neg (by omega), Int.neg_one_mul]
 have e3 : ((qv r)⁻¹).num = sg r.neg (val r.den) := by rw [Rat.num_inv, e1, e2, hs]
 have e4 : ((qv r)⁻¹).den = val r.num := by
  rw [Rat.den_inv, e1, if_neg, sg_abs]
  intro h
  have := congrArg Int.natAbs h
  rw [sg_abs] at this
  exact hn this
 refine ⟨?_, ?_⟩
 ·unfold invD ofQ
  rw [hr.may, if_neg (by simp), if_neg h0, e3, e4, sg_neg, sg_abs, h1, h2, decide_eq_true hr.den, Bool.and_true]
 ·unfold fitQ
  rw [e3, e4, sg_abs, h1, h2]
  exact ⟨natMay_len m2, natMay_len m1⟩
def negD (r : RatD) : RatD := if r.num.length = 0 then r else ⟨!r.neg, r.num, r.den⟩
theorem negD_q {r : RatD} (h : GoodR r) : GoodR (negD r) ∧ qv (negD r) = -qv r := by
 unfold negD
 by_cases h0 : r.num.length = 0
 ·rw [if_pos h0]
  refine ⟨h, ?_⟩
  rw [h.nil_iff.1 h0, Rat.neg_zero]
 ·rw [if_neg h0]
  refine ⟨⟨?_, h.un, h.ud⟩, ?_⟩
  ·obtain ⟨h1, h2, h3, h4, h5⟩ := ratMay_of h.may
   unfold ratMay
   rw [h1, h2, decide_eq_true h3, decide_eq_true h4, decide_eq_false h0]
   simp
  ·unfold qv
   rw [Rat.neg_mkRat]
   congr 1
   unfold sg
   cases r.neg <;> simp
theorem limbs_1 : limbs 1 = [1] := limbs_of (l := [1]) (U64.nil.cons (by omega) (by omega)) (by decide)
theorem ofD_q (n : Int) : ofD n = ofQ (n : Rat) := by
 unfold ofD ofQ
 rw [Rat.num_intCast, Rat.den_intCast, limbs_1]
theorem qv_ofD (n : Int) : qv (ofD n) = (n : Rat) := by rw [ofD_q, qv_ofQ]
theorem fitQ_int {n : Int} (h : n.natAbs < 18446744073709551616 ^ 8) : fitQ (n : Rat) := by
 unfold fitQ
 rw [Rat.num_intCast, Rat.den_intCast, limbs_1]
 exact ⟨limbs_len.2 h, by decide⟩
theorem ofD_good {n : Int} (h : n.natAbs < 18446744073709551616 ^ 8) : GoodR (ofD n) := by rw [ofD_q]; exact ofQ_good (fitQ_int h)
theorem addD_int {a b : Int} (ha : a.natAbs < 4611686018427387904) (hb : b.natAbs < 4611686018427387904) : addD (ofD a) (ofD b) = (0, ofD (a + b)) := by
 have p8 : (18446744073709551616 : Nat) ^ 8 = 18446744073709551616 ^ 7 * 18446744073709551616 := Nat.pow_succ ..
 have p7 : 0 < (18446744073709551616 : Nat) ^ 7 := Nat.pow_pos (by omega)
 have big : ∀ n : Nat, n < 18446744073709551616 → n < 18446744073709551616 ^ 8 := fun n h => by rw [p8]; exact Nat.lt_of_lt_of_le h (Nat.le_mul_of_pos_left _ p7)
 have ga := ofD_good (n := a) (big _ (by omega))
 have gb := ofD_good (n := b) (big _ (by omega))
 rcases addD_q ga gb with h | ⟨h, _⟩
 ·exfalso
  have hbig : isBig [limbs (val (ofD a).num * val (ofD b).den), limbs (val (ofD b).num * val (ofD a).den), limbs (plusD (ofD a).neg (val (ofD a).num * val (ofD b).den) (ofD b).neg (val (ofD b).num * val (ofD a).den)).2, limbs (val (ofD a).den * val (ofD b).den)] = false := by
   apply isBig_no
   have e1 : val (ofD a).num = a.natAbs := val_limbs _
   have e2 : val (ofD b).num = b.natAbs := val_limbs _
   have e3 : val (ofD a).den = 1 := rfl
   have e4 : val (ofD b).den = 1 := rfl
   rw [e1, e2, e3, e4]
   intro r hr
   simp only [List.mem_cons, List.not_mem_nil, or_false] at hr
   rcases hr with rfl | rfl | rfl | rfl
   ·exact limbs_len.2 (big _ (by omega))
   ·exact limbs_len.2 (big _ (by omega))
   ·refine limbs_len.2 (big _ ?_)
    unfold plusD
    split
    ·show _ + _ < _; omega
    ·split
     ·show _ - _ < _; omega
     ·show _ - _ < _; omega
   ·exact limbs_len.2 (big _ (by omega))
  unfold addD at h
  rw [ga.may, gb.may, if_neg (by simp), hbig, if_neg (by simp)] at h
  have hz := congrArg Prod.fst h
  have l1 := isBig_not hbig (r := limbs (plusD (ofD a).neg (val (ofD a).num * val (ofD b).den) (ofD b).neg (val (ofD b).num * val (ofD a).den)).2) (by simp)
  have l2 := isBig_not hbig (r := limbs (val (ofD a).den * val (ofD b).den)) (by simp)
  rw [makeD_q _ _ _ (Nat.mul_ne_zero ga.den gb.den) l1 l2] at hz
  cases hz
 ·rw [h, qv_ofD, qv_ofD, ← Rat.intCast_add, ← ofD_q]
theorem mulD_int {a b : Int} (ha : a.natAbs < 4294967296) (hb : b.natAbs < 4294967296) : mulD (ofD a) (ofD b) = (0, ofD (a * b)) := by
 have p8 : (18446744073709551616 : Nat) ^ 8 = 18446744073709551616 ^ 7 * 18446744073709551616 := Nat.pow_succ ..
 have p7 : 0 < (18446744073709551616 : Nat) ^ 7 := Nat.pow_pos (by omega)
 have big : ∀ n : Nat, n < 18446744073709551616 → n < 18446744073709551616 ^ 8 := fun n h => by rw [p8]; exact Nat.lt_of_lt_of_le h (Nat.le_mul_of_pos_left _ p7)
 have ga := ofD_good (n := a) (big _ (by omega))
 have gb := ofD_good (n := b) (big _ (by omega))
 have hm : a.natAbs * b.natAbs < 18446744073709551616 := Nat.lt_of_le_of_lt (Nat.mul_le_mul (Nat.le_of_lt_succ (show a.natAbs < 4294967295 + 1 by omega)) (Nat.le_of_lt_succ (show b.natAbs < 4294967295 + 1 by omega))) (by decide)
 rcases mulD_q ga gb with h | ⟨h, _⟩
 ·exfalso
  have hbig : isBig [limbs (val (ofD a).num * val (ofD b).num), limbs (val (ofD a).den * val (ofD b).den)] = false := by
   apply isBig_no
   have e1 : val (ofD a).num = a.natAbs := val_limbs _
   have e2 : val (ofD b).num = b.natAbs := val_limbs _
   have e3 : val (ofD a).den = 1 := rfl
   have e4 : val (ofD b).den = 1 := rfl
   rw [e1, e2, e3, e4]
   intro r hr
   simp only [List.mem_cons, List.not_mem_nil, or_false] at hr
   rcases hr with rfl | rfl
   ·exact limbs_len.2 (big _ hm)
   ·exact limbs_len.2 (big _ (by omega))
  unfold mulD at h
  rw [ga.may, gb.may, if_neg (by simp), hbig, if_neg (by simp)] at h
  have hz := congrArg Prod.fst h
  have l1 := isBig_not hbig (r := limbs (val (ofD a).num * val (ofD b).num)) (by simp)
  have l2 := isBig_not hbig (r := limbs (val (ofD a).den * val (ofD b).den)) (by simp)
  rw [makeD_q _ _ _ (Nat.mul_ne_zero ga.den gb.den) l1 l2] at hz
  cases hz
 ·rw [h, qv_ofD, qv_ofD, ← Rat.intCast_mul, ← ofD_q]
structure GoodT (t : TermD) : Prop where
 c : GoodR t.c
 m : monMay t.m = true
def GoodP (ts : List TermD) : Prop := ∀ t ∈ ts, GoodT t
def U64T (ts : List TermD) : Prop := ∀ t ∈ ts, U64 t.c.num ∧ U64 t.c.den
theorem GoodP.tl {t : TermD} {ts : List TermD} (h : GoodP (t :: ts)) : GoodP ts := fun s hs => h s (List.mem_cons_of_mem _ hs)
theorem GoodP.hd {t : TermD} {ts : List TermD} (h : GoodP (t :: ts)) : GoodT t := h t List.mem_cons_self
theorem GoodP.nil : GoodP [] := fun _ h => by cases h
theorem GoodP.cons {t : TermD} {ts : List TermD} (h : GoodT t) (hs : GoodP ts) : GoodP (t :: ts) := fun s hm => by
 rcases List.mem_cons.1 hm with rfl | hm
 ·exact h
 ·exact hs s hm
theorem GoodP.app {a b : List TermD} (h : GoodP a) (h' : GoodP b) : GoodP (a ++ b) := fun s hm => by
 rcases List.mem_append.1 hm with hm | hm
 ·exact h s hm
 ·exact h' s hm
theorem GoodP.goodM {ts : List TermD} (h : GoodP ts) : GoodM ts := fun t ht => (h t ht).m
theorem GoodP.u {ts : List TermD} (h : GoodP ts) : U64T ts := fun t ht => ⟨(h t ht).c.un, (h t ht).c.ud⟩
theorem goodT_right {t : TermD} (h : right t = true) (hu : U64 t.c.num ∧ U64 t.c.den) : GoodT t := by
 unfold right at h
 rw [Bool.and_eq_true] at h
 exact ⟨⟨h.1, hu.1, hu.2⟩, h.2⟩
theorem GoodT.right {t : TermD} (h : GoodT t) : right t = true := by
 unfold Proofs.YtgjkgkgieeoalaaGreat.right
 rw [h.c.may, h.m]; rfl
def lin (f : MonD → Rat) : List TermD → Rat
 | [] => 0
 | t :: ts => qv t.c * f t.m + lin f ts
section
variable (f : MonD → Rat)
theorem lin_app (a b : List TermD) : lin f (a ++ b) = lin f a + lin f b := by
 induction a with
 | nil => simp [lin, Rat.zero_add]
 | cons t a ih => simp only [List.cons_append, lin, ih]; grind
theorem lin_perm {a b : List TermD} (h : a.Perm b) : lin f a = lin f b := by
 induction h with
 | nil => rfl
 | cons t _ ih => simp only [lin, ih]
 | swap s t l => simp only [lin]; grind
 | trans _ _ h1 h2 => exact h1.trans h2
theorem lin_nz {ts : List TermD} (h : GoodP ts) : lin f (ts.filter nz) = lin f ts := by
 induction ts with
 | nil => rfl
 | cons t ts ih =>
   rw [List.filter_cons]
   split
   ·simp only [lin, ih h.tl]
   ·rename_i hz
    have h0 : t.c.num.length = 0 := by unfold nz at hz; simpa using hz
    simp only [lin, ih h.tl, h.hd.c.nil_iff.1 h0]
    grind
theorem setM_far {al : List TermD} {m : MonD} (h : ∀ p ∈ al, p.m ≠ m) (c : RatD) : setM al m c = al := by
 unfold setM
 induction al with
 | nil => rfl
 | cons p al ih => rw [List.map_cons, if_neg (h p (by simp)), ih (fun q hq => h q (by simp [hq]))]
theorem lin_setM {al : List TermD} (hk : al.Pairwise fun p q => p.m ≠ q.m) {p : TermD} (hp : p ∈ al) (c : RatD) : lin f (setM al p.m c) + qv p.c * f p.m = lin f al + qv c * f p.m := by
 induction al with
 | nil => cases hp
 | cons q r ih =>
   obtain ⟨h1, h2⟩ := List.pairwise_cons.1 hk
   have e : setM (q :: r) p.m c = (if q.m = p.m then ⟨c, p.m⟩ else q) :: setM r p.m c := rfl
   rcases List.mem_cons.1 hp with rfl | hp
   ·rw [e, if_pos rfl, setM_far (fun s hs => fun h => h1 s hs h.symm)]
    simp only [lin]
    grind
   ·rw [e, if_neg (h1 p hp)]
    simp only [lin]
    have := ih h2 hp
    grind
end
theorem Sta.keys {o : Int} {al : List TermD} (h : Sta o al) : al.Pairwise fun p q => p.m ≠ q.m := by
 refine List.Pairwise.imp_of_mem ?_ h.fall
 intro p q hp hq hpq e
 have := (monCmp_zero h.ord (h.good p hp) (h.good q hq)).2 e
 omega
theorem putD_ok {o : Int} {al : List TermD} {t : TermD} (h : Sta o al) (hg : GoodP al) (ht : GoodT t) (he : (putD o al t).1 = 0) :
    GoodP (putD o al t).2 ∧ ∀ f, lin f (putD o al t).2 = lin f al + qv t.c * f t.m := by
 unfold putD at he ⊢
 by_cases hm : hasM al t.m = true
 ·rw [if_pos hm] at he ⊢
  obtain ⟨p, hp, em, ec⟩ := getM_of hm
  rw [ec] at he ⊢
  rcases addD_q (hg p hp).c ht.c with h1 | ⟨h1, h2⟩
  ·rw [h1] at he; simp at he
  ·rw [h1]
   simp only [ne_eq, not_true, if_false]
   refine ⟨fun s hs => ?_, fun f => ?_⟩
   ·rcases (mem_setM hm).1 hs with rfl | ⟨hs, _⟩
    ·exact ⟨ofQ_good h2, ht.m⟩
    ·exact hg s hs
   ·have := lin_setM f h.keys hp (ofQ (qv p.c + qv t.c))
    rw [← em]
    rw [qv_ofQ] at this
    grind
 ·rw [if_neg hm] at he ⊢
  refine ⟨fun s hs => ?_, fun f => ?_⟩
  ·rcases mem_insD.1 hs with rfl | hs
   ·exact ht
   ·exact hg s hs
  ·rw [lin_perm f (insD_perm o t al)]
   simp only [lin]
   grind
theorem putAll_ok {o : Int} : ∀ (ts al : List TermD), Sta o al → GoodP al → GoodP ts → (putAll o al ts).1 = 0 →
    Sta o (putAll o al ts).2 ∧ GoodP (putAll o al ts).2 ∧ ∀ f, lin f (putAll o al ts).2 = lin f al + lin f ts
 | [], al, h, hg, _, _ => ⟨h, hg, fun f => by simp only [putAll, lin]; grind⟩
 | t :: ts, al, h, hg, ht, he => by
   unfold putAll at he ⊢
   by_cases h1 : (putD o al t).1 = 0
   ·rw [if_neg (by simpa using h1)] at he ⊢
    obtain ⟨g1, g2⟩ := putD_ok h hg ht.hd h1
    obtain ⟨a1, a2, a3⟩ := putAll_ok ts _ (h.putD ht.hd.m h1) g1 ht.tl he
    refine ⟨a1, a2, fun f => ?_⟩
    rw [a3, g2]
    simp only [lin]
    grind
   ·rw [if_pos (by simpa using h1)] at he
    exact absurd he h1
structure Canon (o : Int) (ps : List TermD) : Prop where
 sta : Sta o ps
 good : GoodP ps
 nz : ∀ t ∈ ps, nz t = true
theorem Sta.filter {o : Int} {al : List TermD} (h : Sta o al) (p : TermD → Bool) : Sta o (al.filter p) :=
 ⟨h.ord, fun t ht => h.good t (List.mem_filter.1 ht).1, h.fall.filter p⟩
theorem canon_nz {o : Int} {al : List TermD} (h : Sta o al) (hg : GoodP al) : Canon o (al.filter Proofs.YtgjkgkgieeoalaaGreat.nz) :=
 ⟨h.filter _, fun t ht => hg t (List.mem_filter.1 ht).1, fun t ht => (List.mem_filter.1 ht).2⟩
theorem canon_nil {o : Int} (h : oOk o) : Canon o [] := ⟨.nil h, .nil, fun _ h => by cases h⟩
theorem GoodT.ne {t : TermD} (h : GoodT t) (hz : nz t = true) : qv t.c ≠ 0 := fun e => by
 have := h.c.nil_iff.2 e
 unfold nz at hz
 rw [decide_eq_true this] at hz
 cases hz
theorem polMake_ok {o : Int} {ts : List TermD} (hu : U64T ts) (h : (polMake o ts).1 = 0) :
    Canon o (polMake o ts).2 ∧ (polMake o ts).2.length ≤ 60 ∧ GoodP ts ∧ ∀ f, lin f (polMake o ts).2 = lin f ts := by
 unfold polMake at h ⊢
 split at h
 ·cases h
 ·rename_i h1
  rw [if_neg h1]
  split at h
  ·rename_i h2; exact absurd h h2
  ·rename_i h2
   rw [if_neg h2]
   split at h
   ·cases h
   ·rename_i h3
    rw [if_neg h3]
    rw [Bool.not_eq_false, Bool.and_eq_true, Bool.not_eq_true'] at h1
    have ho := ordered_ok.1 h1.1
    have hg : GoodP ts := fun t ht => by
     refine goodT_right ?_ (hu t ht)
     have := h1.2
     unfold anyOdd at this
     rw [List.any_eq_false] at this
     simpa using this t ht
    obtain ⟨a1, a2, a3⟩ := putAll_ok ts [] (.nil ho) .nil hg (by simpa using h2)
    refine ⟨canon_nz a1 a2, Nat.le_of_not_lt h3, hg, fun f => ?_⟩
    rw [lin_nz f a2, a3]
    simp only [lin]
    grind
def ind (m : MonD) : MonD → Rat := fun x => if x = m then 1 else 0
theorem lin_ind_not {al : List TermD} {m : MonD} (h : ∀ p ∈ al, p.m ≠ m) : lin (ind m) al = 0 := by
 induction al with
 | nil => rfl
 | cons p al ih =>
   simp only [lin]
   rw [ih (fun q hq => h q (by simp [hq]))]
   unfold ind
   rw [if_neg (h p (by simp))]
   grind
theorem lin_ind_mem {al : List TermD} (hk : al.Pairwise fun p q => p.m ≠ q.m) {t : TermD} (ht : t ∈ al) : lin (ind t.m) al = qv t.c := by
 induction al with
 | nil => cases ht
 | cons p al ih =>
   obtain ⟨h1, h2⟩ := List.pairwise_cons.1 hk
   simp only [lin]
   rcases List.mem_cons.1 ht with rfl | ht
   ·rw [lin_ind_not (fun q hq => fun e => h1 q hq e.symm)]
    unfold ind
    rw [if_pos rfl]
    grind
   ·rw [ih h2 ht]
    unfold ind
    rw [if_neg (h1 t ht)]
    grind
theorem canon_sub {o : Int} {p q : List TermD} (hp : Canon o p) (hq : Canon o q) (h : ∀ f, lin f p = lin f q) {t : TermD} (ht : t ∈ p) : t ∈ q := by
 have h1 := lin_ind_mem hp.sta.keys ht
 rw [h] at h1
 have h2 : ∃ s ∈ q, s.m = t.m := by
  refine Classical.byContradiction fun hn => ?_
  rw [lin_ind_not (fun s hs e => hn ⟨s, hs, e⟩)] at h1
  exact (hp.good t ht).ne (hp.nz t ht) h1.symm
 obtain ⟨s, hs, e⟩ := h2
 have h3 := lin_ind_mem hq.sta.keys hs
 rw [e, h1] at h3
 have : t.c = s.c := (hp.good t ht).c.inj (hq.good s hs).c h3
 have : t = s := by cases t; cases s; simp_all
 rw [this]; exact hs
theorem Sta.nodup' {o : Int} {al : List TermD} (h : Sta o al) : al.Nodup := h.keys.imp (fun hne e => hne (by rw [e]))
theorem canon_ext {o : Int} {p q : List TermD} (hp : Canon o p) (hq : Canon o q) (h : ∀ f, lin f p = lin f q) : p = q :=
 fall_eq hp.sta.ord hp.good.goodM hp.sta.fall hq.sta.fall ((List.perm_ext_iff_of_nodup hp.sta.nodup' hq.sta.nodup').2 fun _ => ⟨canon_sub hp hq h, canon_sub hq hp fun f => (h f).symm⟩)
end Go.Proofs.YtgjkgkgieeoalaaGreat
