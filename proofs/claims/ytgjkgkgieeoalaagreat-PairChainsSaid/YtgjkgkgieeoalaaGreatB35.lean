/- Parts of the proof, joined: each theorem says what it shows. -/
import Derived.Test.YtgjkgkgieeoalaaGreatB32
import Derived.Test.YtgjkgkgieeoalaaGreatB34
import Derived.Test.YtgjkgkgieeoalaaGreatB28
import Derived.Test.YtgjkgkgieeoalaaGreatB25
import Derived.Test.YtgjkgkgieeoalaaGreatB21
import Derived.Test.YtgjkgkgieeoalaaGreatB30
import Derived.Test.YtgjkgkgieeoalaaGreatB23
import Derived.Test.YtgjkgkgieeoalaaGreatB29
import Derived.Deep.Slices
import Derived.Deep.Strs
import Derived.OpenShut
import Derived.ChangeSlices
import Derived.ChangeSame
set_option linter.unusedVariables false
set_option linter.unusedSimpArgs false
set_option maxHeartbeats 24000000
set_option maxRecDepth 100000
namespace Go.Proofs.YtgjkgkgieeoalaaGreat
open Go.RowKit Go.PlainAid
def s13A : ByteArray := ⟨#[120, 94, 50, 32, 45, 32, 121]⟩
def s13B : ByteArray := ⟨#[120, 42, 121, 32, 45, 32, 49]⟩
def s13C : ByteArray := ⟨#[120, 32, 45, 32, 121, 94, 50]⟩
theorem parse13A : parseD 0 s13A = (0, [⟨ofD 1, ⟨2, 0, 0, 0⟩⟩, ⟨ofD (-1), ⟨0, 1, 0, 0⟩⟩]) := by kernel_rfl
theorem parse13B : parseD 0 s13B = (0, [⟨ofD 1, ⟨1, 1, 0, 0⟩⟩, ⟨ofD (-1), ⟨0, 0, 0, 0⟩⟩]) := by kernel_rfl
theorem parse13C : parseD 0 s13C = (0, [⟨ofD 1, ⟨1, 0, 0, 0⟩⟩, ⟨ofD (-1), ⟨0, 2, 0, 0⟩⟩]) := by kernel_rfl
theorem cross13 : crossD 0 [⟨ofD 1, ⟨2, 0, 0, 0⟩⟩, ⟨ofD (-1), ⟨0, 1, 0, 0⟩⟩] [⟨ofD 1, ⟨1, 1, 0, 0⟩⟩, ⟨ofD (-1), ⟨0, 0, 0, 0⟩⟩] = (0, [⟨ofD 1, ⟨1, 0, 0, 0⟩⟩, ⟨ofD (-1), ⟨0, 2, 0, 0⟩⟩]) := by kernel_rfl
theorem all13 : (allP 3).length = 3 := by kernel_rfl
theorem short13 {a b : Int} {m m' : MonD} (ha : a.natAbs < 18446744073709551616) (hb : b.natAbs < 18446744073709551616) : shortP [⟨ofD a, m⟩, ⟨ofD b, m'⟩] := ⟨by simp, fun s hs => by
 simp only [List.mem_cons, List.not_mem_nil, or_false] at hs
 rcases hs with rfl | rfl
 ·exact ofD_short a ha
 ·exact ofD_short b hb⟩
theorem same_13 {b0 : Nat} {A B : Option Addr} {c d : Nat} {X : List TermD} {w : World} (h : RPol w b0 A X) (hc : X.length ≤ c) (hs : shortP X) (h' : RPol w b0 B X) (hd : X.length ≤ d) :
    Calls Tryz.prog 80 #[.slice A X.length c, .slice B X.length d] w fun e w' => e = .returned (.bool true) ∧ Below w.heap.size w w' := by
 have := rpol_Same b0 A B c d X X w h hc hs h' hd hs
 rwa [decide_eq_true rfl] at this
theorem law13_text (b0 : Nat) (s : ByteArray) (w : World) (hb0 : b0 ≤ w.heap.size) (hs : s.size ≤ 1000000) {X : List TermD} (hX : parseD 0 s = (0, X)) :
    Calls Tryz.prog 88 #[.string s] w fun e w' => ∃ A c, e = .returned (.slice A X.length c) ∧ X.length ≤ c ∧ RPol w' b0 A X ∧ Below w.heap.size w w' := by
 have CP := Hd.mk (ref_Parse b0 0 s w hb0 hs)
 rw [hX] at CP
 clear hX
 go_enter Tryz.func88, Tryz.ntmps88
 go_wp2_with fail
 refine CP.out.mono ?_
 rintro e w2 ⟨A, c, rfl, hc, hr, hb⟩
 have HR := Hd.mk hr
 have HB := Hd.mk hb
 clear hr hb
 go_wp2_with fail
 go_ret
 exact ⟨A, c, rfl, hc, HR.out, HB.out⟩
theorem law13_shown (w : World) : Calls Tryz.prog 27 #[] w fun e w' => e = .returned (.bool true) ∧ Below w.heap.size w w' := by
 have CA := Hd.mk (fun W (hB : Below w.heap.size w W) => law13_text w.heap.size s13A W hB.size (by decide) parse13A)
 have CB := Hd.mk (fun W (hB : Below w.heap.size w W) => law13_text w.heap.size s13B W hB.size (by decide) parse13B)
 have CC := Hd.mk (fun W (hB : Below w.heap.size w W) => law13_text w.heap.size s13C W hB.size (by decide) parse13C)
 have SA : Hd (shortP [⟨ofD 1, ⟨2, 0, 0, 0⟩⟩, ⟨ofD (-1), ⟨0, 1, 0, 0⟩⟩]) := ⟨short13 (by decide) (by decide)⟩
 have SB : Hd (shortP [⟨ofD 1, ⟨1, 1, 0, 0⟩⟩, ⟨ofD (-1), ⟨0, 0, 0, 0⟩⟩]) := ⟨short13 (by decide) (by decide)⟩
 have SC : Hd (shortP [⟨ofD 1, ⟨1, 0, 0, 0⟩⟩, ⟨ofD (-1), ⟨0, 2, 0, 0⟩⟩]) := ⟨short13 (by decide) (by decide)⟩
 have HD := Hd.mk cross13
 have CN := Hd.mk (pair_All 3)
 rw [all13] at CN
 obtain ⟨PA, hA⟩ : ∃ PA : List TermD, [⟨ofD 1, ⟨2, 0, 0, 0⟩⟩, ⟨ofD (-1), ⟨0, 1, 0, 0⟩⟩] = PA := ⟨_, rfl⟩
 obtain ⟨PB, hB⟩ : ∃ PB : List TermD, [⟨ofD 1, ⟨1, 1, 0, 0⟩⟩, ⟨ofD (-1), ⟨0, 0, 0, 0⟩⟩] = PB := ⟨_, rfl⟩
 obtain ⟨PC, hC⟩ : ∃ PC : List TermD, [⟨ofD 1, ⟨1, 0, 0, 0⟩⟩, ⟨ofD (-1), ⟨0, 2, 0, 0⟩⟩] = PC := ⟨_, rfl⟩
 rw [hA] at CA SA HD
 rw [hB] at CB SB HD
 rw [hC] at CC SC HD
 clear hA hB hC
 unfold s13A at CA
 unfold s13B at CB
 unfold s13C at CC
 go_enter Tryz.func27, Tryz.ntmps27
 go_wp2_with fail
 refine (CA.out _ (.refl _ _)).mono ?_
 rintro e w1 ⟨A1, c1, rfl, hc1, hr, hb⟩
 have HR1 := Hd.mk hr
 have HB1 := Hd.mk hb
 clear hr hb CA
 go_wp2_with fail
 refine (CB.out _ HB1.out).mono ?_
 rintro e w2 ⟨A2, c2, rfl, hc2, hr, hb⟩
 have HR2 := Hd.mk (HR1.out.up hb)
 have HQ2 := Hd.mk hr
 have HB2 := Hd.mk (goes HB1.out hb)
 clear hr hb CB HR1 HB1
 have CR := Hd.mk (pair_Cross w.heap.size 0 A1 A2 c1 c2 PA PB w2 HB2.out.size HR2.out HQ2.out hc1 hc2 SA.out SB.out)
 rw [HD.out] at CR
 dsimp only at CR
 go_wp2_with fail
 refine CR.out.mono ?_
 rintro e w3 ⟨A3, c3, rfl, hc3, hr, hb⟩
 have HR3 := Hd.mk hr
 have HB3 := Hd.mk (goes HB2.out hb)
 clear hr hb CR HR2 HQ2 HB2
 go_wp2_with fail
 refine (CC.out _ HB3.out).mono ?_
 rintro e w4 ⟨A4, c4, rfl, hc4, hr, hb⟩
 have HR4 := Hd.mk (HR3.out.up hb)
 have HQ4 := Hd.mk hr
 have HB4 := Hd.mk (goes HB3.out hb)
 clear hr hb CC HR3 HB3
 have CS := Hd.mk (same_13 HR4.out hc3 SC.out HQ4.out hc4)
 go_wp2_with fail
 refine CS.out.mono ?_
 rintro e w5 ⟨rfl, hb⟩
 have HB5 := Hd.mk (goes HB4.out hb)
 clear hb CS
 go_wp2_with fail
 refine (CN.out w5).mono ?_
 rintro e w6 ⟨A6, c6, rfl, -, hb⟩
 have HB6 := Hd.mk (goes HB5.out hb)
 clear hb CN
 go_wp2_with fail
 go_ret
 exact ⟨rfl, HB6.out⟩
end Go.Proofs.YtgjkgkgieeoalaaGreat
namespace Go.Proofs.YtgjkgkgieeoalaaGreat
open Go.RowKit
def uselessD (ls : List MonD) (x : Int × Int) (ps : List (Int × Int)) : Bool := apartD ls x || chainD ls x ps
theorem pair_Useless (A B : Option Addr) (c d : Nat) (ls : List MonD) (x y : Int) (ps : List (Int × Int)) (w : World) (h : RMons w A ls) (hl : ls.length ≤ 1000000) (hp : RPrs w B ps) (hpl : ps.length ≤ 1000000) :
    Calls Tryz.prog 32 #[.slice A ls.length c, .agg #[.int .i64 x, .int .i64 y], .slice B ps.length d] w fun e w' => e = .returned (.bool (uselessD ls (x, y) ps)) ∧ Below w.heap.size w w' := by
 have CA := Hd.mk (fun W (hB : Below w.heap.size w W) => pair_Apart A c ls x y W (h.up hB) hl)
 have CC := Hd.mk (fun W (hB : Below w.heap.size w W) => pair_Chained A B c d ls x y ps W (h.up hB) hl (hp.up hB) hpl)
 unfold uselessD
 clear h hp
 generalize apartD ls (x, y) = u at CA ⊢
 generalize chainD ls (x, y) ps = v at CC ⊢
 go_enter Tryz.func32, Tryz.ntmps32
 go_upto_region 1 with (fail)
 refine wp_gen (fun W => Below w.heap.size w W ∧ Bk W w.heap.size 23 #[.int .i64 x, .int .i64 y]) ⟨(Below.refl _ _).alloc (Nat.le_refl _) _, Bk.new_ _ _ _⟩ ?_
 intro W1 H1
 obtain ⟨d0, d1⟩ := H1.out.2.pair
 have CA := Hd.mk (CA.out W1 H1.out.1)
 cases u with
 | true =>
   go_wp2_with fail
   refine CA.out.mono ?_
   rintro e w2 ⟨rfl, hb⟩
   have HB := Hd.mk (goes H1.out.1 hb)
   clear hb
   go_wp2_with fail
   go_ret
   exact ⟨rfl, HB.out⟩
 | false =>
   go_wp2_with fail
   refine CA.out.mono ?_
   rintro e w2 ⟨rfl, hb⟩
   have HB := Hd.mk (goes H1.out.1 hb)
   have K2 := Hd.mk (H1.out.2.up hb)
   have CC := Hd.mk (CC.out w2 HB.out)
   clear hb CA d0 d1
   obtain ⟨d0, d1⟩ := K2.out.pair
   go_wp2_with fail
   refine CC.out.mono ?_
   rintro e w3 ⟨rfl, hb⟩
   have HB3 := Hd.mk (goes HB.out hb)
   clear hb CC
   go_wp2_with fail
   go_ret
   exact ⟨retBool (Bool.false_or _), HB3.out⟩
def modM (m : Int × Int × Int) : MonD := ⟨m.1.tmod 5, m.2.1.tmod 5, m.2.2.tmod 5, 0⟩
def modL (ms : List (Int × Int × Int)) : List MonD := ms.map modM
def thirdAt (ls : List MonD) (z : MonD) (i j : Nat) (k : Nat) : Bool := (monDiv z (atM ls k)).1 && !decide ((k : Int) = i) && !decide ((k : Int) = j)
def thirdD (ls : List MonD) (z : MonD) (i j : Nat) (n : Nat) : Bool := (List.range n).any (thirdAt ls z i j)
theorem thirdD_succ (ls : List MonD) (z : MonD) (i j n : Nat) : thirdD ls z i j (n + 1) = (thirdD ls z i j n || thirdAt ls z i j n) := by
 unfold thirdD
 rw [List.range_succ, List.any_append]
 simp
theorem allP_has {k : Nat} (hk : k ≤ 64) {a b : Nat} (hab : a < b) (hb : b < k) : ((a : Int), (b : Int)) ∈ allP k := by
 unfold allP
 rw [show (max 0 (min (k : Int) 64)).toNat = k by omega]
 obtain ⟨r, hr⟩ := pairsU_at hb hab
 exact List.mem_map.2 ⟨(a, b), by rw [hr]; simp, rfl⟩
theorem hasP_all {k : Nat} (hk : k ≤ 64) {a b : Nat} (hab : a ≠ b) (ha : a < k) (hb : b < k) : hasP (allP k) a b = true := by
 unfold hasP
 rcases Nat.lt_or_ge a b with h | h
 ·refine List.any_eq_true.2 ⟨_, allP_has hk h hb, ?_⟩
  unfold isP
  rw [decide_eq_true, decide_eq_true] <;> first | rfl | omega | (dsimp only; omega)
 ·refine List.any_eq_true.2 ⟨_, allP_has hk (show b < a by omega) ha, ?_⟩
  unfold isP
  rw [decide_eq_true, decide_eq_true] <;> first | rfl | omega | (dsimp only; omega)
theorem monLcm_comm (a b : MonD) : monLcm a b = monLcm b a := by
 unfold monLcm maxM
 rw [Bool.and_comm (monMay a)]
 split
 ·rfl
 ·simp only [MonD.mk.injEq]
  exact ⟨Int.max_comm .., Int.max_comm .., Int.max_comm .., Int.max_comm ..⟩
theorem chain_pend {ls : List MonD} (hn : ls.length ≤ 64) {a b : Nat} (ha : a < ls.length) (hb : b < ls.length) : chainD ls (a, b) (allP ls.length) = false := by
 refine chain_no fun k hk => ?_
 unfold chainAt
 dsimp only
 by_cases h1 : k = a
 ·subst h1; simp
 ·rw [hasP_all hn (fun e => h1 e.symm) ha hk]; simp
theorem chain_none {ls : List MonD} {a b : Nat} (hab : a < b) (hb : b < ls.length) : chainD ls (a, b) [] = thirdD ls (monLcm (atM ls a) (atM ls b)) a b ls.length := by
 unfold chainD thirdD
 have hr : rightD ls.length ((a : Int), (b : Int)) = true := by
  unfold rightD
  dsimp only
  rw [decide_eq_true (by omega), decide_eq_true (by omega), decide_eq_true (by omega)]; rfl
 rw [hr, Bool.true_and]
 congr 1
 funext k
 unfold chainAt thirdAt
 dsimp only
 rw [show hasP [] (a : Int) (k : Int) = false from rfl, show hasP [] (b : Int) (k : Int) = false from rfl]
 cases (monDiv (monLcm (atM ls a) (atM ls b)) (atM ls k)).1 <;> cases decide ((k : Int) = a) <;> cases decide ((k : Int) = b) <;> rfl
theorem thirdD_swap (ls : List MonD) (z : MonD) (i j n : Nat) : thirdD ls z i j n = thirdD ls z j i n := by
 unfold thirdD
 congr 1
 funext k
 unfold thirdAt
 cases (monDiv z (atM ls k)).1 <;> cases decide ((k : Int) = i) <;> cases decide ((k : Int) = j) <;> rfl
theorem chains_law {ls : List MonD} (hn : ls.length ≤ 64) {i j : Nat} (hi : i < ls.length) (hj : j < ls.length) (hij : i ≠ j) :
    chainD ls (min (i : Int) j, max (i : Int) j) (allP ls.length) = false ∧ chainD ls (min (i : Int) j, max (i : Int) j) [] = thirdD ls (monLcm (atM ls i) (atM ls j)) i j ls.length ∧
     uselessD ls (min (i : Int) j, max (i : Int) j) [] = (thirdD ls (monLcm (atM ls i) (atM ls j)) i j ls.length || apartD ls (min (i : Int) j, max (i : Int) j)) := by
 have h2 : chainD ls (min (i : Int) j, max (i : Int) j) [] = thirdD ls (monLcm (atM ls i) (atM ls j)) i j ls.length := by
  rcases Nat.lt_or_ge i j with h | h
  ·rw [show min (i : Int) j = i by omega, show max (i : Int) j = j by omega]
   exact chain_none h hj
  ·rw [show min (i : Int) j = j by omega, show max (i : Int) j = i by omega, thirdD_swap, monLcm_comm]
   exact chain_none (by omega) hi
 refine ⟨?_, h2, ?_⟩
 ·rcases Nat.lt_or_ge i j with h | h
  ·rw [show min (i : Int) j = i by omega, show max (i : Int) j = j by omega]
   exact chain_pend hn hi hj
  ·rw [show min (i : Int) j = j by omega, show max (i : Int) j = i by omega]
   exact chain_pend hn hj hi
 ·unfold uselessD
  rw [h2, Bool.or_comm]
theorem chains_same (ls : List MonD) (i : Int) : uselessD ls (i, i) [] = false := by
 have hr : rightD ls.length (i, i) = false := by
  unfold rightD
  dsimp only
  rw [decide_eq_false (show ¬ i < i by omega)]; simp
 unfold uselessD apartD chainD
 rw [hr]; rfl
theorem pairsU_count (N : Nat) : 2 * (pairsU N).length = N * (N - 1) := by
 induction N with
 | zero => rfl
 | succ N ih =>
   show 2 * (pairsU N ++ (List.range N).map fun i => (i, N)).length = _
   rw [List.length_append, List.length_map, List.length_range, Nat.mul_add, ih, Nat.add_sub_cancel]
   cases N with
   | zero => rfl
   | succ M => simp only [Nat.add_sub_cancel, Nat.add_mul, Nat.mul_add]; omega
theorem allP_len {k : Nat} (hk : k ≤ 64) : 2 * (allP k).length = k * (k - 1) := by
 unfold allP
 rw [List.length_map, show (max 0 (min (k : Int) 64)).toNat = k by omega]
 exact pairsU_count k
end Go.Proofs.YtgjkgkgieeoalaaGreat
namespace Go.Proofs.YtgjkgkgieeoalaaGreat
open Go.ChangeShapes Go.WideShapes Go.RowKit
theorem Tryz.slMo : Tryz.prog.underlying 69 = some (.slice 66) := by kernel_rfl
end Go.Proofs.YtgjkgkgieeoalaaGreat
namespace Go.Proofs.YtgjkgkgieeoalaaGreat
open Go.RowKit
theorem Bo2.al {S g1 g2 : Nat} {w0 w : World} {t1 t2 : TypeId} {c1 c2 : Array Value} (h : Bo2 S g1 g2 w0 w t1 t2 c1 c2) (o : Obj) : Bo2 S g1 g2 w0 (w.alloc o) t1 t2 c1 c2 := h.up ((Below.refl _ _).alloc (Nat.le_refl _) _)
structure Bo1 (S g : Nat) (w0 w : World) (ty : TypeId) (cs : Array Value) : Prop where
 below : Below S w0 w
 s1 : S ≤ g
 k1 : Bk w g ty cs
section
variable {S g : Nat} {w0 w w' : World} {ty : TypeId} {cs : Array Value}
theorem Bo1.up (h : Bo1 S g w0 w ty cs) (hb : Below w.heap.size w w') : Bo1 S g w0 w' ty cs :=
 ⟨h.below.trans (hb.mono (Nat.le_trans h.s1 (Nat.le_of_lt h.k1.lt))), h.s1, h.k1.up hb⟩
theorem Bo1.al (h : Bo1 S g w0 w ty cs) (o : Obj) : Bo1 S g w0 (w.alloc o) ty cs := h.up ((Below.refl _ _).alloc (Nat.le_refl _) _)
theorem Bo1.d1 (h : Bo1 S g w0 w ty cs) : Bo1 S g w0 w.drew ty cs := ⟨Below.dn h.below 1, h.s1, h.k1⟩
end
def AllP (b0 : Nat) (w : World) (l : List (Option Addr × List TermD)) : Prop := ∀ (j : Nat) (p : Option Addr × List TermD), l[j]? = some p → RPol w b0 p.1 p.2
section
variable {b0 : Nat} {w w' : World} {l : List (Option Addr × List TermD)}
theorem AllP.up (h : AllP b0 w l) (hb : Below w.heap.size w w') : AllP b0 w' l := fun j p hp => (h j p hp).up hb
theorem AllP.cons {A : Option Addr} {ts : List TermD} (h : AllP b0 w l) (hr : RPol w b0 A ts) : AllP b0 w ((A, ts) :: l) := fun j p hp => by
 match j, hp with
 | 0, hp => injection hp with hp; subst hp; exact hr
 | j + 1, hp => exact h j p hp
theorem AllP.nil : AllP b0 w [] := fun j p hp => by simp at hp
end
end Go.Proofs.YtgjkgkgieeoalaaGreat
namespace Go.Proofs.YtgjkgkgieeoalaaGreat
def IntP (ts : List TermD) : Prop := ∀ t ∈ ts, ∃ n : Int, t.c = ofD n
def mass : List TermD → Nat
 | [] => 0
 | t :: ts => val t.c.num + mass ts
theorem val_ofD (n : Int) : val (ofD n).num = n.natAbs := val_limbs _
theorem mass_app (a b : List TermD) : mass (a ++ b) = mass a + mass b := by
 induction a with
 | nil => simp [mass]
 | cons t a ih => simp only [List.cons_append, mass, ih]; omega
theorem mass_perm {a b : List TermD} (h : a.Perm b) : mass a = mass b := by
 induction h with
 | nil => rfl
 | cons t _ ih => simp only [mass, ih]
 | swap s t l => simp only [mass]; omega
 | trans _ _ h1 h2 => exact h1.trans h2
theorem mass_filter (p : TermD → Bool) (ts : List TermD) : mass (ts.filter p) ≤ mass ts := by
 induction ts with
 | nil => exact Nat.le_refl _
 | cons t ts ih =>
   rw [List.filter_cons]
   split
   ·simp only [mass]; omega
   ·simp only [mass]; omega
theorem mass_mem {ts : List TermD} {t : TermD} (h : t ∈ ts) : val t.c.num ≤ mass ts := by
 induction ts with
 | nil => cases h
 | cons s ts ih =>
   simp only [mass]
   rcases List.mem_cons.1 h with rfl | h
   ·omega
   ·have := ih h; omega
theorem mass_setM {al : List TermD} (hk : al.Pairwise fun p q => p.m ≠ q.m) {p : TermD} (hp : p ∈ al) (c : RatD) : mass (setM al p.m c) + val p.c.num = mass al + val c.num := by
 induction al with
 | nil => cases hp
 | cons q r ih =>
   obtain ⟨h1, h2⟩ := List.pairwise_cons.1 hk
   have e : setM (q :: r) p.m c = (if q.m = p.m then ⟨c, p.m⟩ else q) :: setM r p.m c := rfl
   rcases List.mem_cons.1 hp with rfl | hp
   ·rw [e, if_pos rfl, setM_far (fun s hs => fun h => h1 s hs h.symm)]
    simp only [mass]
    omega
   ·rw [e, if_neg (h1 p hp)]
    simp only [mass]
    have := ih h2 hp
    omega
theorem IntP.hd {t : TermD} {ts : List TermD} (h : IntP (t :: ts)) : ∃ n : Int, t.c = ofD n := h t (by simp)
theorem IntP.tl {t : TermD} {ts : List TermD} (h : IntP (t :: ts)) : IntP ts := fun s hs => h s (by simp [hs])
theorem IntP.nil : IntP [] := fun _ h => by cases h
theorem IntP.cons {t : TermD} {ts : List TermD} (h : ∃ n : Int, t.c = ofD n) (hs : IntP ts) : IntP (t :: ts) := fun s hm => by
 rcases List.mem_cons.1 hm with rfl | hm
 ·exact h
 ·exact hs s hm
theorem IntP.app {a b : List TermD} (h : IntP a) (h' : IntP b) : IntP (a ++ b) := fun s hm => by
 rcases List.mem_append.1 hm with hm | hm
 ·exact h s hm
 ·exact h' s hm
theorem IntP.good {ts : List TermD} (h : IntP ts) (hg : GoodM ts) (hm : mass ts < 4611686018427387904) : GoodP ts := fun t ht => by
 obtain ⟨n, e⟩ := h t ht
 have := mass_mem ht
 rw [e, val_ofD] at this
 exact ⟨by rw [e]; exact ofD_small (by omega), hg t ht⟩
theorem putD_int {o : Int} {al : List TermD} {t : TermD} (h : Sta o al) (hi : IntP al) (ht : ∃ n : Int, t.c = ofD n) (hm : mass al + val t.c.num < 4611686018427387904) :
    (putD o al t).1 = 0 ∧ IntP (putD o al t).2 ∧ mass (putD o al t).2 ≤ mass al + val t.c.num ∧ ∀ s ∈ (putD o al t).2, s.m = t.m ∨ ∃ r ∈ al, r.m = s.m := by
 obtain ⟨b, eb⟩ := ht
 have vb := val_ofD b
 rw [← eb] at vb
 unfold putD
 by_cases hh : hasM al t.m = true
 ·rw [if_pos hh]
  obtain ⟨p, hp, em, ec⟩ := getM_of hh
  obtain ⟨a, ea⟩ := hi p hp
  have va := val_ofD a
  rw [← ea] at va
  have hpm := mass_mem hp
  rw [ec, ea, eb, addD_int (by omega) (by omega)]
  simp only [ne_eq, not_true, if_false]
  refine ⟨trivial, fun s hs => ?_, ?_, fun s hs => ?_⟩
  ·rcases (mem_setM hh).1 hs with rfl | ⟨hs, _⟩
   ·exact ⟨_, rfl⟩
   ·exact hi s hs
  ·have := mass_setM h.keys hp (ofD (a + b))
   rw [em, val_ofD] at this
   rw [eb] at vb
   omega
  ·rcases (mem_setM hh).1 hs with rfl | ⟨hs, _⟩
   ·exact .inl rfl
   ·exact .inr ⟨s, hs, rfl⟩
 ·rw [if_neg hh]
  refine ⟨rfl, fun s hs => ?_, ?_, fun s hs => ?_⟩
  ·rcases mem_insD.1 hs with rfl | hs
   ·exact ⟨b, eb⟩
   ·exact hi s hs
  ·rw [mass_perm (insD_perm o t al)]
   simp only [mass]
   omega
  ·rcases mem_insD.1 hs with rfl | hs
   ·exact .inl rfl
   ·exact .inr ⟨s, hs, rfl⟩
theorem putAll_int {o : Int} : ∀ (ts al : List TermD), Sta o al → IntP al → GoodM ts → IntP ts → mass al + mass ts < 4611686018427387904 →
    (putAll o al ts).1 = 0 ∧ IntP (putAll o al ts).2 ∧ mass (putAll o al ts).2 ≤ mass al + mass ts ∧ ∀ s ∈ (putAll o al ts).2, (∃ r ∈ ts, r.m = s.m) ∨ ∃ r ∈ al, r.m = s.m
 | [], al, h, hi, _, _, _ => ⟨rfl, hi, by simp [putAll, mass], fun s hs => .inr ⟨s, hs, rfl⟩⟩
 | t :: ts, al, h, hi, hg, ht, hm => by
   simp only [mass] at hm
   obtain ⟨a1, a2, a3, a4⟩ := putD_int h hi ht.hd (by omega)
   unfold putAll
   rw [if_neg (by simpa using a1)]
   obtain ⟨b1, b2, b3, b4⟩ := putAll_int ts _ (h.putD (hg t (by simp)) a1) a2 (fun s hs => hg s (by simp [hs])) ht.tl (by omega)
   refine ⟨b1, b2, by simp only [mass]; omega, fun s hs => ?_⟩
   rcases b4 s hs with ⟨r, hr, e⟩ | ⟨r, hr, e⟩
   ·exact .inl ⟨r, by simp [hr], e⟩
   ·rcases a4 r hr with h' | ⟨q, hq, e'⟩
    ·exact .inl ⟨t, by simp, by rw [← e, h']⟩
    ·exact .inr ⟨q, hq, e'.trans e⟩
def polSum (o : Int) (ts : List TermD) : List TermD := (putAll o [] ts).2.filter nz
structure Ints (M : Nat) (ts : List TermD) : Prop where
 int : IntP ts
 good : GoodM ts
 mass : mass ts ≤ M
theorem Ints.nil : Ints 0 [] := ⟨.nil, (fun _ h => by cases h), Nat.le_refl _⟩
theorem Ints.le {M N : Nat} {ts : List TermD} (h : Ints M ts) (hn : M ≤ N) : Ints N ts := ⟨h.1, h.2, Nat.le_trans h.3 hn⟩
theorem Ints.app {M N : Nat} {a b : List TermD} (h : Ints M a) (h' : Ints N b) : Ints (M + N) (a ++ b) :=
 ⟨h.1.app h'.1, fun s hs => (List.mem_append.1 hs).elim (h.2 s) (h'.2 s), by rw [mass_app]; have := h.3; have := h'.3; omega⟩
theorem Ints.one {n : Int} {m : MonD} (hm : monMay m = true) : Ints n.natAbs [⟨ofD n, m⟩] :=
 ⟨.cons ⟨n, rfl⟩ .nil, fun s hs => by
  simp only [List.mem_cons, List.not_mem_nil, or_false] at hs
  rw [hs]; exact hm, by simp [Proofs.YtgjkgkgieeoalaaGreat.mass, val_ofD]⟩
theorem Ints.goodP {M : Nat} {ts : List TermD} (h : Ints M ts) (hM : M < 4611686018427387904) : GoodP ts := h.1.good h.2 (Nat.lt_of_le_of_lt h.3 hM)
structure SumOk (o : Int) (M : Nat) (ts : List TermD) : Prop where
 make : polMake o ts = if 60 < (polSum o ts).length then (90, []) else (0, polSum o ts)
 canon : Canon o (polSum o ts)
 ints : Ints M (polSum o ts)
 lin : ∀ f, lin f (polSum o ts) = lin f ts
 mem : ∀ s ∈ polSum o ts, ∃ r ∈ ts, r.m = s.m
theorem sum_ok {o : Int} {M : Nat} {ts : List TermD} (ho : oOk o) (h : Ints M ts) (hM : M < 4611686018427387904) : SumOk o M ts := by
 have hg := h.goodP hM
 obtain ⟨b1, b2, b3, b4⟩ := putAll_int ts [] (.nil ho) .nil h.2 h.1 (by simp only [mass]; have := h.3; omega)
 obtain ⟨c1, c2, c3⟩ := putAll_ok ts [] (.nil ho) .nil hg b1
 have hcan := canon_nz c1 c2
 refine ⟨?_, hcan, ⟨fun t ht => b2 t (List.mem_filter.1 ht).1, fun t ht => (hcan.good t ht).m, ?_⟩, fun f => ?_, fun s hs => ?_⟩
 ·unfold polMake
  have hodd : anyOdd ts = false := by
   unfold anyOdd
   rw [List.any_eq_false]
   intro t ht
   rw [(hg t ht).right]; simp
  rw [hodd, ordered_ok.2 ho, if_neg (by simp), if_neg (by simpa using b1)]
  rfl
 ·refine Nat.le_trans (mass_filter _ _) (Nat.le_trans b3 ?_)
  simp only [mass]
  have := h.3
  omega
 ·unfold polSum
  rw [lin_nz f c2, c3]
  simp only [Proofs.YtgjkgkgieeoalaaGreat.lin]
  grind
 ·rcases b4 s (List.mem_filter.1 hs).1 with h | ⟨r, hr, _⟩
  ·exact h
  ·cases hr
theorem SumOk.ext {o : Int} {M N : Nat} {a b : List TermD} (h : SumOk o M a) (h' : SumOk o N b) (e : ∀ f, Proofs.YtgjkgkgieeoalaaGreat.lin f a = Proofs.YtgjkgkgieeoalaaGreat.lin f b) : polSum o a = polSum o b :=
 canon_ext h.canon h'.canon fun f => by rw [h.lin, h'.lin, e]
theorem SumOk.eq {o : Int} {M : Nat} {a p : List TermD} (h : SumOk o M a) (hp : Canon o p) (e : ∀ f, Proofs.YtgjkgkgieeoalaaGreat.lin f a = Proofs.YtgjkgkgieeoalaaGreat.lin f p) (hl : p.length ≤ 60) : polMake o a = (0, p) := by
 have : polSum o a = p := canon_ext h.canon hp fun f => by rw [h.lin, e]
 rw [h.make, this, if_neg (by omega)]
theorem canon_may {o : Int} {p : List TermD} (h : Canon o p) (hl : p.length ≤ 60) : polMay o p = true := by
 unfold polMay
 rw [Bool.and_eq_true, List.all_eq_true]
 refine ⟨fun i hi => ?_, by rw [ordered_ok.2 h.sta.ord, decide_eq_true hl]; rfl⟩
 have hi := List.mem_range.1 hi
 have hget : p[i]? = some p[i] := List.getElem?_eq_getElem hi
 have hmem : p[i] ∈ p := List.getElem_mem hi
 rw [okAt_of hget, (h.good _ hmem).c.may, (h.good _ hmem).m]
 have hz := h.nz _ hmem
 unfold nz at hz
 rw [hz]
 by_cases h0 : i = 0
 ·simp [h0]
 ·have : 0 < monCmp o (p.getD (i - 1) tz).m p[i].m := by
    rw [List.getD_eq_getElem?_getD, List.getElem?_eq_getElem (by omega)]
    exact (List.pairwise_iff_getElem.1 h.sta.fall) (i - 1) i (by omega) hi (by omega)
  rw [decide_eq_true this]; simp
theorem polAdd_int {o : Int} {ps : List (List TermD)} (h : ∀ p ∈ ps, Canon o p ∧ p.length ≤ 60) : polAdd o ps = polMake o ps.flatten := by
 unfold polAdd
 rw [show ps.all (polMay o) = true by rw [List.all_eq_true]; exact fun p hp => canon_may (h p hp).1 (h p hp).2, if_neg (by simp)]
def Fits (p : List TermD) (m : MonD) : Prop := ∀ s ∈ p, monMay (addM s.m m) = true
structure Pol (o : Int) (M : Nat) (p : List TermD) : Prop where
 ints : Ints M p
 canon : Canon o p
 len : p.length ≤ 60
theorem Pol.may {o : Int} {M : Nat} {p : List TermD} (h : Pol o M p) : polMay o p = true := canon_may h.canon h.len
theorem SumOk.pol {o : Int} {M : Nat} {ts : List TermD} (h : SumOk o M ts) (hl : (polMake o ts).1 = 0) : Pol o M (polMake o ts).2 ∧ polMake o ts = (0, polSum o ts) := by
 have h1 := h.make
 split at h1
 ·rw [h1] at hl; cases hl
 ·rename_i h6
  rw [h1]
  exact ⟨⟨h.ints, h.canon, Nat.le_of_not_lt h6⟩, rfl⟩
def Low (k : Int) (ts : List TermD) : Prop := ∀ t ∈ ts, (0 ≤ t.m.x0 ∧ t.m.x0 ≤ k) ∧ (0 ≤ t.m.x1 ∧ t.m.x1 ≤ k) ∧ (0 ≤ t.m.x2 ∧ t.m.x2 ≤ k) ∧ (0 ≤ t.m.x3 ∧ t.m.x3 ≤ k)
theorem monMay_low {m : MonD} (h : (0 ≤ m.x0 ∧ m.x0 ≤ 40) ∧ (0 ≤ m.x1 ∧ m.x1 ≤ 40) ∧ (0 ≤ m.x2 ∧ m.x2 ≤ 40) ∧ (0 ≤ m.x3 ∧ m.x3 ≤ 40)) : monMay m = true := by
 unfold monMay MonD.l
 simp only [List.any_cons, List.any_nil, badE]
 simp
 omega
theorem Low.fits {j k : Int} {p q : List TermD} (hp : Low j p) (hq : Low k q) (h : j + k ≤ 40) : ∀ t ∈ q, Fits p t.m := fun t ht s hs => by
 have h1 := hp s hs
 have h2 := hq t ht
 refine monMay_low ?_
 simp only [addM]
 omega
theorem Low.sum {k : Int} {o : Int} {M : Nat} {ts : List TermD} (h : Low k ts) (hs : SumOk o M ts) : Low k (polSum o ts) := fun t ht => by
 obtain ⟨r, hr, e⟩ := hs.mem t ht
 rw [← e]
 exact h r hr
theorem Low.app {k : Int} {a b : List TermD} (h : Low k a) (h' : Low k b) : Low k (a ++ b) := fun s hs => (List.mem_append.1 hs).elim (h s) (h' s)
theorem putD_size (o : Int) (al : List TermD) (t : TermD) : (putD o al t).2.length ≤ al.length + 1 := by
 unfold putD
 split
 ·split
  ·simp
  ·simp [setM]
 ·rw [(insD_perm o t al).length_eq]; simp
theorem putAll_size (o : Int) : ∀ (ts al : List TermD), (putAll o al ts).2.length ≤ al.length + ts.length
 | [], al => by simp [putAll]
 | t :: ts, al => by
   unfold putAll
   split
   ·simp
   ·have h1 := putAll_size o ts (putD o al t).2
    have h2 := putD_size o al t
    simp only [List.length_cons]
    omega
theorem polSum_len (o : Int) (ts : List TermD) : (polSum o ts).length ≤ ts.length := by
 unfold polSum
 have h1 := putAll_size o ts []
 have h2 := List.length_filter_le nz (putAll o [] ts).2
 simp only [List.length_nil] at h1
 omega
structure Sm (ts : List TermD) : Prop where
 ints : Ints 1280 ts
 low : Low 3 ts
 len : ts.length ≤ 10
structure SmP (o : Int) (p : List TermD) : Prop where
 pol : Pol o 1280 p
 low : Low 3 p
 len : p.length ≤ 10
theorem Sm.make {o : Int} (ho : oOk o) {ts : List TermD} (h : Sm ts) : SmP o (polMake o ts).2 ∧ (polMake o ts).1 = 0 := by
 have hs := sum_ok ho h.ints (by decide)
 have hl := polSum_len o ts
 have h10 := h.len
 have e : polMake o ts = (0, polSum o ts) := by rw [hs.make, if_neg (by omega)]
 obtain ⟨h1, _⟩ := hs.pol (by rw [e])
 rw [e] at h1 ⊢
 exact ⟨⟨h1, h.low.sum hs, by show (polSum o ts).length ≤ 10; omega⟩, rfl⟩
theorem SmP.fits {o : Int} {p q : List TermD} (hp : SmP o p) (hq : SmP o q) : ∀ t ∈ q, Fits p t.m := hp.low.fits hq.low (by decide)
section
variable {o : Int} {p q r : List TermD}
theorem zero_add (hp : SmP o p) : polAdd o [p, [], []] = (0, p) := by
 have ho := hp.pol.canon.sta.ord
 rw [polAdd_int (by simp [hp.pol.canon, hp.pol.len, canon_nil ho]), show [p, [], []].flatten = p by simp]
 exact (sum_ok ho hp.pol.ints (by decide)).eq hp.pol.canon (fun f => rfl) hp.pol.len
theorem zero_mul (hp : SmP o p) : polMul o p [] = (0, []) := by
 have ho := hp.pol.canon.sta.ord
 unfold polMul
 rw [hp.pol.may, canon_may (canon_nil ho) (by simp)]
 exact (sum_ok ho Ints.nil (by decide)).eq (canon_nil ho) (fun f => rfl) (by simp)
end
end Go.Proofs.YtgjkgkgieeoalaaGreat
namespace Go.Proofs.YtgjkgkgieeoalaaGreat
open Go.RowKit
def flat3 (ms : List (Int × Int × Int)) : List Value := ms.flatMap fun m => [.int .u8 m.1, .int .u8 m.2.1, .int .u8 m.2.2]
structure RSm (w : World) (A : Option Addr) (c : Nat) (B : Option Addr) (d : Nat) (ns : List Int) (ms : List (Int × Int × Int)) : Prop where
 n : Rd w w.heap.size 1 A ns.length (ints .i8 ns)
 m : Rd w w.heap.size 3 B ms.length (flat3 ms)
 nc : ns.length ≤ c
 md : ms.length ≤ d
 nb : ∀ x ∈ ns, -128 ≤ x ∧ x ≤ 127
 mb : ∀ x ∈ ms, (0 ≤ x.1 ∧ x.1 ≤ 255) ∧ (0 ≤ x.2.1 ∧ x.2.1 ≤ 255) ∧ (0 ≤ x.2.2 ∧ x.2.2 ≤ 255)
theorem RSm.up {w w' : World} {A B : Option Addr} {c d : Nat} {ns : List Int} {ms : List (Int × Int × Int)} (h : RSm w A c B d ns ms) (hb : Below w.heap.size w w') : RSm w' A c B d ns ms :=
 ⟨h.n.up hb, h.m.up hb, h.nc, h.md, h.nb, h.mb⟩
theorem flat3_get : ∀ {ms : List (Int × Int × Int)} {i : Nat} {m : Int × Int × Int}, ms[i]? = some m →
    (flat3 ms)[i * 3]? = some (.int .u8 m.1) ∧ (flat3 ms)[i * 3 + 1]? = some (.int .u8 m.2.1) ∧ (flat3 ms)[i * 3 + 2]? = some (.int .u8 m.2.2)
 | [], i, m, h => by simp at h
 | x :: ms, 0, m, h => by
   simp only [List.getElem?_cons_zero, Option.some.injEq] at h
   subst h
   exact ⟨rfl, rfl, rfl⟩
 | x :: ms, i + 1, m, h => by
   have := flat3_get (ms := ms) (i := i) (m := m) (by simpa using h)
   have e : flat3 (x :: ms) = .int .u8 x.1 :: .int .u8 x.2.1 :: .int .u8 x.2.2 :: flat3 ms := rfl
   rw [e, show (i + 1) * 3 = i * 3 + 1 + 1 + 1 by omega]
   simpa using this
theorem Ints.short {M : Nat} {p : List TermD} (h : Ints M p) (hM : M < 18446744073709551616) (hl : p.length ≤ 1000000) : shortP p :=
 ⟨hl, fun s hs => by
  obtain ⟨n, e⟩ := h.int s hs
  have h1 := Nat.le_trans (mass_mem hs) h.mass
  rw [e] at h1 ⊢
  exact ofD_short n (by have : val (ofD n).num = n.natAbs := val_limbs _; omega)⟩
end Go.Proofs.YtgjkgkgieeoalaaGreat
namespace Go.Proofs.YtgjkgkgieeoalaaGreat
open Go.ChangeShapes Go.WideShapes Go.RowKit
theorem Tryz.slM3 : Tryz.prog.underlying 57 = some (.slice 76) := by kernel_rfl
theorem Tryz.arM3 : Tryz.prog.underlying 76 = some (.array 3 5) := by kernel_rfl
theorem Tryz.undU8 : Tryz.prog.underlying 5 = some (.int .u8) := by kernel_rfl
theorem Tryz.cuU8 : Tryz.prog.cellsOf 5 = 1 := by kernel_rfl
theorem Tryz.cuM3 : Tryz.prog.cellsOf 76 = 3 := by kernel_rfl
def trip (m : Int × Int × Int) : List Value := [.int .u8 m.1, .int .u8 m.2.1, .int .u8 m.2.2]
theorem flat3_app (l m : List (Int × Int × Int)) : flat3 (l ++ m) = flat3 l ++ flat3 m := by simp [flat3]
theorem flat3_len (l : List (Int × Int × Int)) : (flat3 l).length = l.length * 3 := by
 induction l with
 | nil => rfl
 | cons x l ih => rw [show flat3 (x :: l) = trip x ++ flat3 l from rfl, List.length_append, ih, List.length_cons]; show 3 + _ = _; omega
section
variable {H : Type} {enc : TypeId × Value → H} {w : World} {base : Nat} {spare : Nat → Bool} {held : Bool} {fuel : Nat} {cs : List Value} {x : DataW H × List MemPlace}
theorem rd_m3 (h : DataW.trod enc Tryz.prog w base spare held fuel 76 cs = some x) : ∃ m : Int × Int × Int, cs = trip m ∧ (0 ≤ m.1 ∧ m.1 ≤ 255) ∧ (0 ≤ m.2.1 ∧ m.2.1 ≤ 255) ∧ (0 ≤ m.2.2 ∧ m.2.2 ≤ 255) := by
 obtain ⟨xs, n, _, _, hl, hx, hi⟩ := DataW.trod_array Tryz.arM3 h
 rw [Tryz.cuM3] at hl
 have get : ∀ i, i < 3 → ∃ k : Int, (cs.drop i).take 1 = [.int .u8 k] ∧ 0 ≤ k ∧ k ≤ 255 := fun i h4 => by
  have h1 := hi i h4
  rw [Tryz.cuU8, Nat.mul_one, List.getElem?_eq_getElem (by omega)] at h1
  obtain ⟨k, e, _, hw⟩ := DataW.trod_int Tryz.undU8 h1
  exact ⟨k, e, bounds_u8 hw⟩
 match cs, hl with
 | [v0, v1, v2], _ =>
   obtain ⟨a0, e0, b0⟩ := get 0 (by omega)
   obtain ⟨a1, e1, b1⟩ := get 1 (by omega)
   obtain ⟨a2, e2, b2⟩ := get 2 (by omega)
   simp only [List.drop_zero, List.drop_succ_cons, List.take_succ_cons, List.take_zero, List.cons.injEq, and_true] at e0 e1 e2
   subst e0 e1 e2
   exact ⟨(a0, a1, a2), rfl, b0, b1, b2⟩
theorem rows3_up {a : Addr} {T : Nat → Int × Int × Int} : ∀ (n : Nat), (∀ i, i < n → ∀ k u, (trip (T i))[k]? = some u → w.cell? (a.add (i * 3 + k)) = some u) →
    ∀ j u, (flat3 ((List.range n).map T))[j]? = some u → w.cell? (a.add j) = some u
 | 0, _ => fun j u h => by simp [flat3] at h
 | n + 1, h => by
   have h2 := rows3_up n (fun i hi => h i (by omega))
   have h4 := h n (by omega)
   have hlen := flat3_len ((List.range n).map T)
   rw [List.length_map, List.length_range] at hlen
   rw [List.range_succ, List.map_append, flat3_app]
   intro j u hu
   rcases Nat.lt_or_ge j (n * 3) with hj | hj
   ·rw [List.getElem?_append_left (by omega)] at hu
    exact h2 j u hu
   ·rw [List.getElem?_append_right (by omega), hlen] at hu
    have := h4 (j - n * 3) u hu
    rwa [show n * 3 + (j - n * 3) = j by omega] at this
theorem rd_m3s (h : DataW.trod enc Tryz.prog w base spare held fuel 57 cs = some x) :
    ∃ B ms d, cs = [.slice B ms.length d] ∧ ms.length ≤ d ∧ Rd w w.heap.size 3 B ms.length (flat3 ms) ∧ ∀ m ∈ ms, (0 ≤ m.1 ∧ m.1 ≤ 255) ∧ (0 ≤ m.2.1 ∧ m.2.1 ≤ 255) ∧ (0 ≤ m.2.2 ∧ m.2.2 ≤ 255) := by
 rcases Deep.open_slice Tryz.slM3 h with ⟨e, _⟩ | ⟨a, len, cap, m, n, D, Pl, e, _, hl, hm, hmm, _, hx⟩
 ·exact ⟨none, [], 0, e, Nat.le_refl _, ⟨rfl, fun h => by cases h⟩, fun m hm => by cases hm⟩
 ·have hle : len ≤ m := by rw [hmm]; split <;> omega
  have hel : ∀ i, ∃ p : Int × Int × Int, i < len → (∀ k u, (trip p)[k]? = some u → w.cell? (a.add (i * 3 + k)) = some u) ∧ (0 ≤ p.1 ∧ p.1 ≤ 255) ∧ (0 ≤ p.2.1 ∧ p.2.1 ≤ 255) ∧ (0 ≤ p.2.2 ∧ p.2.2 ≤ 255) := fun i => by
   by_cases hi : i < len
   ·obtain ⟨cs', h1, h2⟩ := hx i (by omega)
    rw [Tryz.cuM3] at h1
    obtain ⟨s, rfl, hs⟩ := rd_m3 h2
    obtain ⟨_, h3, h4⟩ := World.cells?_some h1
    refine ⟨s, fun _ => ⟨fun k u hu => ?_, hs⟩⟩
    have hk : k < 3 := by
     rcases Nat.lt_or_ge k (trip s).length with h5 | h5
     ·exact h5
     ·rw [List.getElem?_eq_none h5] at hu; cases hu
    rw [← add_add, h4 k hk]; exact hu
   ·exact ⟨(0, 0, 0), fun h => absurd h hi⟩
  obtain ⟨F, hF⟩ := Classical.axiomOfChoice hel
  have h2 := rows3_up (w := w) (a := a) (T := F) len (fun i hi => (hF i hi).1)
  have hlen : ((List.range len).map F).length = len := by simp
  refine ⟨some a, (List.range len).map F, cap, by rw [hlen]; exact e, by rw [hlen]; exact hl, ⟨flat3_len _, fun hn => ⟨a, rfl, ?_, h2⟩⟩, fun s hs => ?_⟩
  ·rw [hlen] at hn
   have := World.block_lt_of_cell? w _ ((hF 0 hn).1 0 _ rfl)
   rwa [add_block] at this
  ·obtain ⟨i, hi, rfl⟩ := List.mem_map.1 hs
   exact (hF i (List.mem_range.1 hi)).2
end
theorem Sm.take {l : List TermD} (h : Sm l) (k : Nat) : Sm (l.take k) := by
 refine ⟨⟨fun t ht => h.ints.int t (List.mem_of_mem_take ht), fun t ht => h.ints.good t (List.mem_of_mem_take ht), ?_⟩, fun t ht => h.low t (List.mem_of_mem_take ht), by rw [List.length_take]; have := h.len; omega⟩
 have h1 := mass_app (l.take k) (l.drop k)
 rw [List.take_append_drop] at h1
 have := h.ints.mass
 omega
end Go.Proofs.YtgjkgkgieeoalaaGreat
