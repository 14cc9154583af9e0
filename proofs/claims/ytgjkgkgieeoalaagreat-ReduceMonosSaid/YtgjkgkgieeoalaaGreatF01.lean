/- Parts of the proof, joined: each theorem says what it shows. -/
import Derived.Test.YtgjkgkgieeoalaaGreatProg
import Derived.WalkKit
import Derived.WalkSpells
import Derived.WalkLawsBesides
import Derived.Deep.QuietTactic
import Derived.BigQuiet
import Derived.Deep.LoopGhost
import Derived.Deep.DeepCutAuto
import Derived.Deep.CutBlock
import Derived.Maps.AppendAt
import Derived.Deep.AppendLies
import Derived.RegionTactic
import Derived.OwnWalk
import Derived.Laws.OwnMore
import Derived.Laws.MakeOwn
set_option linter.unusedVariables false
set_option linter.unusedSimpArgs false
set_option maxHeartbeats 24000000
set_option maxRecDepth 100000
namespace Go.Proofs.YtgjkgkgieeoalaaGreat
theorem ae (n : Nat) : n ≤ n := Nat.le_refl n
theorem af {a b : Prop} (h : a) (k : b) : a ∧ b := And.intro h k
theorem ah {a b c : Nat} (h : a ≤ b) (k : b ≤ c) : a ≤ c := Nat.le_trans h k
theorem ai {α : Type} {l : List α} {i : Nat} (h : i < l.length) : l[i]? = some l[i] := List.getElem?_eq_getElem h
def U64 (l : List Int) : Prop := ∀ x ∈ l, 0 ≤ x ∧ x < 18446744073709551616
def val : List Int → Nat
 | [] => 0
 | x :: l => x.toNat + 18446744073709551616 * val l
def limbs (n : Nat) : List Int :=
 if h : n = 0 then [] else ((n % 18446744073709551616 : Nat) : Int) :: limbs (n / 18446744073709551616)
 termination_by n
 decreasing_by omega
def trimL : List Int → List Int
 | [] => []
 | x :: l => match trimL l with
   | [] => if x = 0 then [] else [x]
   | t => x :: t
theorem limbs_zero : limbs 0 = [] := by rw [limbs]; simp
theorem limbs_pos {n : Nat} (h : n ≠ 0) : limbs n = ((n % 18446744073709551616 : Nat) : Int) :: limbs (n / 18446744073709551616) := by rw [limbs]; simp [h]
theorem limbs_cons (x : Nat) (n : Nat) (hx : x < 18446744073709551616) (h : x ≠ 0 ∨ n ≠ 0) : limbs (x + 18446744073709551616 * n) = (x : Int) :: limbs n := by
 rw [limbs_pos (by omega)]
 rw [show (x + 18446744073709551616 * n) % 18446744073709551616 = x by omega, show (x + 18446744073709551616 * n) / 18446744073709551616 = n by omega]
theorem limbs_nil {n : Nat} : limbs n = [] ↔ n = 0 := by
 constructor
 ·intro h
  rcases Nat.eq_zero_or_pos n with h0 | h0
  ·exact h0
  ·rw [limbs_pos (by omega)] at h; cases h
 ·rintro rfl; exact limbs_zero
theorem U64.nil : U64 [] := fun _ h => by cases h
theorem U64.cons {x : Int} {l : List Int} (h0 : 0 ≤ x) (h1 : x < 18446744073709551616) (h : U64 l) : U64 (x :: l) := by
 intro y hy; rcases List.mem_cons.1 hy with rfl | hy
 ·exact ⟨h0, h1⟩
 ·exact h y hy
theorem U64.hd {x : Int} {l : List Int} (h : U64 (x :: l)) : 0 ≤ x ∧ x < 18446744073709551616 := h x (List.mem_cons_self)
theorem U64.tl {x : Int} {l : List Int} (h : U64 (x :: l)) : U64 l := fun y hy => h y (List.mem_cons_of_mem _ hy)
theorem U64.app {l m : List Int} (h : U64 l) (h' : U64 m) : U64 (l ++ m) := by
 intro y hy; rcases List.mem_append.1 hy with hy | hy
 ·exact h y hy
 ·exact h' y hy
theorem U64.take {l : List Int} (h : U64 l) (n : Nat) : U64 (l.take n) := fun y hy => h y (List.mem_of_mem_take hy)
theorem U64.drop {l : List Int} (h : U64 l) (n : Nat) : U64 (l.drop n) := fun y hy => h y (List.mem_of_mem_drop hy)
theorem U64.at_ {l : List Int} (h : U64 l) (i : Nat) : 0 ≤ l.getD i 0 ∧ l.getD i 0 < 18446744073709551616 := by
 rw [List.getD_eq_getElem?_getD]
 rcases Nat.lt_or_ge i l.length with hi | hi
 ·rw [ai hi]; exact h _ (List.getElem_mem hi)
 ·rw [List.getElem?_eq_none hi]; simp
theorem U64.set {l : List Int} (h : U64 l) (i : Nat) {x : Int} (h0 : 0 ≤ x) (h1 : x < 18446744073709551616) : U64 (l.set i x) := by
 intro y hy
 rcases List.mem_or_eq_of_mem_set hy with hy | rfl
 ·exact h y hy
 ·exact ⟨h0, h1⟩
theorem limbs_u64 (n : Nat) : U64 (limbs n) := by
 induction n using Nat.strongRecOn with
 | ind n ih =>
   rcases Nat.eq_zero_or_pos n with h | h
   ·subst h; rw [limbs_zero]; exact .nil
   ·rw [limbs_pos (by omega)]
    exact .cons (by omega) (by omega) (ih _ (by omega))
theorem val_limbs (n : Nat) : val (limbs n) = n := by
 induction n using Nat.strongRecOn with
 | ind n ih =>
   rcases Nat.eq_zero_or_pos n with h | h
   ·subst h; rw [limbs_zero]; rfl
   ·rw [limbs_pos (by omega), val, ih _ (by omega)]; omega
theorem val_trim (l : List Int) : val (trimL l) = val l := by
 induction l with
 | nil => rfl
 | cons x l ih =>
   simp only [trimL, val, ← ih]
   generalize trimL l = t
   cases t with
   | nil => by_cases h : x = 0 <;> simp [h, val]
   | cons y t => rfl
theorem val_app (l m : List Int) : val (l ++ m) = val l + 18446744073709551616 ^ l.length * val m := by
 induction l with
 | nil => simp [val]
 | cons x l ih =>
   simp only [List.cons_append, val, ih, List.length_cons, Nat.pow_succ, Nat.mul_add]
   have : 18446744073709551616 * (18446744073709551616 ^ l.length * val m) = 18446744073709551616 ^ l.length * 18446744073709551616 * val m := by
    rw [← Nat.mul_assoc, Nat.mul_comm 18446744073709551616]
   rw [this]; omega
theorem val_lt {l : List Int} (h : U64 l) : val l < 18446744073709551616 ^ l.length := by
 induction l with
 | nil => simp [val]
 | cons x l ih =>
   have h1 := ih h.tl
   have h2 := h.hd
   rw [List.length_cons, Nat.pow_succ, val]
   generalize 18446744073709551616 ^ l.length = p at *
   omega
theorem trim_limbs {l : List Int} (h : U64 l) : trimL l = limbs (val l) := by
 induction l with
 | nil => rw [val, limbs_zero]; rfl
 | cons x l ih =>
   have hx := h.hd
   simp only [trimL, val, ih h.tl]
   rcases Nat.eq_zero_or_pos (val l) with h0 | h0
   ·rw [h0, limbs_zero]
    by_cases hx0 : x = 0
    ·subst hx0; simp [limbs_zero]
    ·rw [Nat.mul_zero, Nat.add_zero, if_neg hx0]
     have := limbs_cons x.toNat 0 (by omega) (by omega)
     rw [Nat.mul_zero, Nat.add_zero, limbs_zero] at this
     rw [this, Int.toNat_of_nonneg hx.1]
   ·rw [limbs_cons x.toNat (val l) (by omega) (by omega)]
    have hn : limbs (val l) ≠ [] := fun e => by rw [limbs_nil] at e; omega
    generalize limbs (val l) = t at hn
    cases t with
    | nil => exact absurd rfl hn
    | cons y t => simp only [List.cons.injEq, and_true]; omega
theorem trimL_snoc0 (l : List Int) : trimL (l ++ [0]) = trimL l := by
 induction l with
 | nil => rfl
 | cons x l ih => simp only [List.cons_append, trimL, ih]
theorem trimL_snoc (l : List Int) (x : Int) (h : x ≠ 0) : trimL (l ++ [x]) = l ++ [x] := by
 induction l with
 | nil => simp [trimL, h]
 | cons y l ih =>
   simp only [List.cons_append, trimL, ih]
   cases l <;> simp
theorem take_snoc {l : List Int} {n : Nat} (h : n < l.length) : l.take (n + 1) = l.take n ++ [l.getD n 0] := by
 rw [List.take_succ_eq_append_getElem h, List.getD_eq_getElem?_getD, ai h]; rfl
theorem trimL_pre (l : List Int) : ∃ n, n ≤ l.length ∧ trimL l = l.take n := by
 induction l with
 | nil => exact ⟨0, ae _, rfl⟩
 | cons x l ih =>
   obtain ⟨n, hn, e⟩ := ih
   simp only [trimL, e]
   cases ht : l.take n with
   | nil =>
     by_cases hx : x = 0
     ·exact ⟨0, by omega, by simp [hx]⟩
     ·exact ⟨1, by simp, by simp [hx]⟩
   | cons y t => exact ⟨n + 1, by simp; omega, by rw [List.take_succ_cons, ht]⟩
theorem trimL_len (l : List Int) : (trimL l).length ≤ l.length := by
 obtain ⟨n, hn, e⟩ := trimL_pre l
 rw [e, List.length_take]; omega
theorem trimL_take (l : List Int) : trimL l = l.take (trimL l).length := by
 obtain ⟨n, hn, e⟩ := trimL_pre l
 rw [e, List.length_take, Nat.min_eq_left hn]
theorem trimL_last {l : List Int} (h : 0 < (trimL l).length) : (trimL l).getD ((trimL l).length - 1) 0 ≠ 0 := by
 induction l with
 | nil => simp [trimL] at h
 | cons x l ih =>
   simp only [trimL] at h ⊢
   cases ht : trimL l with
   | nil =>
     rw [ht] at h
     by_cases hx : x = 0
     ·simp [hx] at h
     ·simp [hx]
   | cons y t =>
     rw [ht] at ih
     have := ih (by simp)
     simpa using this
def Trim (l : List Int) : Prop := l = [] ∨ l.getD (l.length - 1) 0 ≠ 0
theorem trimL_trim {l : List Int} (h : Trim l) : trimL l = l := by
 rcases h with rfl | h
 ·rfl
 ·have hl : 0 < l.length := by
    cases l with
    | nil => simp at h
    | cons x l => simp
  have e : l = l.take (l.length - 1) ++ [l.getD (l.length - 1) 0] := by
   have := take_snoc (l := l) (n := l.length - 1) (by omega)
   rw [show l.length - 1 + 1 = l.length by omega, List.take_length] at this
   exact this
  have := trimL_snoc (l.take (l.length - 1)) _ h
  rw [← e] at this; exact this
theorem trim_trimL (l : List Int) : Trim (trimL l) := by
 rcases Nat.eq_zero_or_pos (trimL l).length with h | h
 ·exact .inl (List.eq_nil_of_length_eq_zero h)
 ·exact .inr (trimL_last h)
theorem limbs_trim (n : Nat) : Trim (limbs n) := by
 have := trim_trimL (limbs n)
 rwa [trim_limbs (limbs_u64 n), val_limbs] at this
theorem limbs_of {l : List Int} (h : U64 l) (ht : Trim l) : limbs (val l) = l := by rw [← trim_limbs h, trimL_trim ht]
theorem limbs_len {n k : Nat} : (limbs n).length ≤ k ↔ n < 18446744073709551616 ^ k := by
 induction k generalizing n with
 | zero =>
   rw [Nat.pow_zero]
   constructor
   ·intro h
    have := limbs_nil.1 (List.eq_nil_of_length_eq_zero (by omega) : limbs n = [])
    omega
   ·intro h
    rw [show n = 0 by omega, limbs_zero]; simp
 | succ k ih =>
   rcases Nat.eq_zero_or_pos n with h | h
   ·subst h
    rw [limbs_zero]
    simp [Nat.pow_pos]
   ·rw [limbs_pos (by omega), List.length_cons, Nat.pow_succ, Nat.add_le_add_iff_right, ih, Nat.div_lt_iff_lt_mul (by omega)]
theorem val_take_drop (l : List Int) (n : Nat) (h : n ≤ l.length) : val l = val (l.take n) + 18446744073709551616 ^ n * val (l.drop n) := by
 have := val_app (l.take n) (l.drop n)
 rw [List.take_append_drop, List.length_take, Nat.min_eq_left h] at this
 exact this
theorem val_snoc (l : List Int) (x : Int) : val (l ++ [x]) = val l + 18446744073709551616 ^ l.length * x.toNat := by
 rw [val_app]; simp [val]
theorem val_lt_len {l m : List Int} (hl : U64 l) (_hm : U64 m) (hmt : Trim m) (h : l.length < m.length) : val l < val m := by
 have h1 := val_lt hl
 rcases hmt with rfl | hmt
 ·simp at h
 ·have e : m = m.take (m.length - 1) ++ [m.getD (m.length - 1) 0] := by
    have := take_snoc (l := m) (n := m.length - 1) (by omega)
    rw [show m.length - 1 + 1 = m.length by omega, List.take_length] at this
    exact this
  have hx := (_hm.at_ (m.length - 1)).1
  have hpos : 1 ≤ (m.getD (m.length - 1) 0).toNat := by omega
  have hp : 18446744073709551616 ^ l.length ≤ 18446744073709551616 ^ (m.length - 1) := Nat.pow_le_pow_right (by omega) (by omega)
  have h2 := Nat.mul_le_mul_left (18446744073709551616 ^ (m.length - 1)) hpos
  have h3 := val_snoc (m.take (m.length - 1)) (m.getD (m.length - 1) 0)
  rw [← e, List.length_take, Nat.min_eq_left (by omega)] at h3
  rw [h3]
  generalize 18446744073709551616 ^ (m.length - 1) * (m.getD (m.length - 1) 0).toNat = z at *
  omega
theorem val_cmp_at {l m : List Int} (hl : U64 l) (hm : U64 m) (hlen : l.length = m.length) {i : Nat} (hi : i < l.length) (hd : l.drop (i + 1) = m.drop (i + 1)) (h : l.getD i 0 < m.getD i 0) : val l < val m := by
 rw [val_take_drop l (i + 1) (by omega), val_take_drop m (i + 1) (by omega), hd, take_snoc hi, take_snoc (by omega), val_snoc, val_snoc]
 have h1 := val_lt (hl.take i)
 rw [List.length_take, Nat.min_eq_left (by omega)] at h1
 rw [List.length_take, List.length_take, Nat.min_eq_left (by omega), Nat.min_eq_left (by omega)]
 have hx := hl.at_ i
 have hy := hm.at_ i
 have hs : (l.getD i 0).toNat + 1 ≤ (m.getD i 0).toNat := by omega
 have := Nat.mul_le_mul_left (18446744073709551616 ^ i) hs
 rw [Nat.mul_add, Nat.mul_one] at this
 generalize 18446744073709551616 ^ i * (m.getD i 0).toNat = z at *
 generalize 18446744073709551616 ^ i * (l.getD i 0).toNat = y at *
 generalize 18446744073709551616 ^ (i + 1) * val (m.drop (i + 1)) = u at *
 omega
theorem getD_at {l : List Int} {i : Nat} (h : i < l.length) : l.getD i 0 = l[i] := by
 rw [List.getD_eq_getElem?_getD, ai h]; rfl
theorem getD_out {l : List Int} {i : Nat} (h : l.length ≤ i) : l.getD i 0 = 0 := by
 rw [List.getD_eq_getElem?_getD, List.getElem?_eq_none h]; rfl
theorem val_set (l : List Int) (i : Nat) (h : i < l.length) (s : Int) : val (l.set i s) + 18446744073709551616 ^ i * (l.getD i 0).toNat = val l + 18446744073709551616 ^ i * s.toNat := by
 induction l generalizing i with
 | nil => simp at h
 | cons x l ih =>
   cases i with
   | zero => simp [val]; omega
   | succ i =>
     have := ih i (by simpa using h)
     simp only [List.set_cons_succ, val, List.getD_cons_succ, Nat.pow_succ]
     rw [Nat.mul_comm (18446744073709551616 ^ i), Nat.mul_assoc, Nat.mul_assoc]
     omega
theorem val_take_succ (l : List Int) (i : Nat) : val (l.take (i + 1)) = val (l.take i) + 18446744073709551616 ^ i * (l.getD i 0).toNat := by
 rcases Nat.lt_or_ge i l.length with h | h
 ·rw [take_snoc h, val_snoc, List.length_take, Nat.min_eq_left (by omega)]
 ·rw [List.take_of_length_le (by omega), List.take_of_length_le h, getD_out h]; simp
theorem val_snoc0 (l : List Int) : val (l ++ [0]) = val l := by rw [val_snoc]; simp
end Go.Proofs.YtgjkgkgieeoalaaGreat
namespace Go.Proofs.YtgjkgkgieeoalaaGreat
open Go.RowKit
structure Hd (p : Prop) : Prop where mk :: (out : p)
theorem aa {p : Prop} (h : p) : Hd p := Hd.mk h
theorem ag (B : Nat) (w : World) : Below B w w := Below.refl B w
theorem add_block (a : Addr) (n : Nat) : (a.add n).block = a.block := by unfold Addr.add; split <;> rfl
theorem add_add (a : Addr) (i j : Nat) : (a.add i).add j = a.add (i + j) := by
 unfold Addr.add
 by_cases hi : i = 0 <;> by_cases hj : j = 0 <;> simp [hi, hj, Nat.add_assoc]
def Rd (w : World) (B sz : Nat) (A : Option Addr) (n : Nat) (xs : List Value) : Prop :=
 xs.length = n * sz ∧ (0 < n → ∃ ad, A = some ad ∧ ad.block < B ∧ ∀ j u, xs[j]? = some u → w.cell? (ad.add j) = some u)
section
variable {w w' : World} {B B' sz n : Nat} {A : Option Addr} {xs : List Value}
theorem Rd.nil : Rd w B sz A 0 [] := ⟨by simp, fun h => absurd h (by omega)⟩
theorem Rd.keep (h : Rd w B sz A n xs) (hk : ∀ p : Addr, p.block < B → w'.cell? p = w.cell? p) : Rd w' B sz A n xs :=
 ⟨h.1, fun hn => by
  obtain ⟨ad, e, hb, hc⟩ := h.2 hn
  exact ⟨ad, e, hb, fun j u hu => (hk _ (by rw [add_block]; exact hb)).trans (hc j u hu)⟩⟩
theorem Rd.more (h : Rd w B sz A n xs) (hB : B ≤ B') : Rd w B' sz A n xs :=
 ⟨h.1, fun hn => by
  obtain ⟨ad, e, hb, hc⟩ := h.2 hn
  exact ⟨ad, e, by omega, hc⟩⟩
theorem Rd.below (h : Rd w B sz A n xs) (hb : Below B w w') : Rd w' B sz A n xs := h.keep fun _ hp => hb.cell hp
theorem Rd.up (h : Rd w w.heap.size sz A n xs) (hb : Below w.heap.size w w') : Rd w' w'.heap.size sz A n xs := (h.below hb).more hb.size
theorem Rd.of_own {base : Nat} {e : TypeId} {c : Nat} (h : w.ownsRow base e sz (.slice A n c) n xs) : Rd w w.heap.size sz A n xs := by
 refine ⟨h.1, fun hn => ?_⟩
 obtain ⟨g, cap, hv, _, hlt⟩ := h.form hn
 have hA : A = some ⟨g, 0, none⟩ := by injection hv
 subst hA
 exact ⟨_, rfl, hlt, h.cells (g := g) rfl⟩
theorem Rd.pre {m : Nat} (h : Rd w B sz A n xs) (hm : m ≤ n) : Rd w B sz A m (xs.take (m * sz)) := by
 refine ⟨by rw [List.length_take, h.1]; exact Nat.min_eq_left (Nat.mul_le_mul_right _ hm), fun hn => ?_⟩
 obtain ⟨ad, e, hb, hc⟩ := h.2 (by omega)
 refine ⟨ad, e, hb, fun j u hu => hc j u ?_⟩
 rw [List.getElem?_take] at hu
 split at hu
 ·exact hu
 ·cases hu
end
section
variable {P : Program} (w : World)
theorem run_append_nilsrc (base : Nat) (t ty e : TypeId) (i : TypeInfo) (sz : Nat) (ht : P.underlying t = some (.slice e)) (hi : P.info? e = some i)
    (v : Value) (n : Nat) (xs : List Value) (hown : w.ownsRow base e sz v n xs) (c : Nat) : (Builtin.append_ #[t, t] ty #[v, .slice none 0 c]).run P w = .ok v w := by
 rcases hown.2 with ⟨rfl, rfl⟩ | ⟨g, cap, cur, rfl, _, _, hnc, _⟩
 ·simp [Builtin.append_, run_underlying ht, sizeOf, typeInfo, hi, Builtin.lenOf, Builtin.firstCells]
 ·simp [Builtin.append_, run_underlying ht, sizeOf, typeInfo, hi, Builtin.lenOf, Builtin.firstCells, hnc, storeCells]
theorem run_append_rd (base : Nat) (t ty e : TypeId) (i : TypeInfo) (z : Value) (sz bytes : Nat) (ht : P.underlying t = some (.slice e)) (hi : P.info? e = some i) (hz : i.zero = some z)
    (hsize : i.size = sz) (hby : i.bytes = bytes) (hzs : z.cells.size = sz) (hsz : 0 < sz)
    (v : Value) (n : Nat) (xs : List Value) (hown : w.ownsRow base e sz v n xs)
    (B : Nat) (A : Option Addr) (m c : Nat) (news : List Value) (hr : Rd w B sz A m news) (h1 : ∀ u ∈ news, u.oneCell' = true)
    (h63 : n + m ≤ maxLen) (hbytes : (n + m) * bytes ≤ 140737488355328) (hbase : base ≤ w.heap.size) :
    ∃ v' w', (Builtin.append_ #[t, t] ty #[v, .slice A m c]).run P w = .ok v' w' ∧ w'.ownsRow base e sz v' (n + m) (xs ++ news) ∧ w.grownBy w' v.ownBlock ∧
     (v'.ownBlock = v.ownBlock ∨ v'.ownBlock = some w.heap.size) := by
 rcases A with _ | ad
 ·have hm : m = 0 := by
    rcases Nat.eq_zero_or_pos m with h0 | h0
    ·exact h0
    ·obtain ⟨ad, h, _⟩ := hr.2 h0
     cases h
  subst hm
  have hn : news = [] := List.eq_nil_of_length_eq_zero (by simpa using hr.1)
  subst hn
  exact ⟨v, w, run_append_nilsrc w base t ty e i sz ht hi v n xs hown c, by simpa using hown, World.grownBy.refl w _, .inl rfl⟩
 ·have hcells : ∀ j u, news[j]? = some u → w.cell? (ad.add j) = some u := by
    intro j u hu
    rcases Nat.eq_zero_or_pos m with h0 | h0
    ·subst h0
     have hn : news = [] := List.eq_nil_of_length_eq_zero (by simpa using hr.1)
     subst hn
     simp at hu
    ·obtain ⟨ad', h, _, hc⟩ := hr.2 h0
     injection h with h
     subst h
     exact hc j u hu
  obtain ⟨v', w', hrun, h2, h3, _, h5⟩ := run_append_own_at (P := P) w base t ty e i z sz bytes ht hi hz hsize hby hzs hsz v n xs hown ad m c news hr.1 hcells h1 h63 hbytes hbase
  exact ⟨v', w', hrun, h2, h3, h5⟩
theorem wp_append_rd {o : Oper} {a : Act} {K : Act → World → Prop} {Q : Exit → Act → World → Prop} (s x : Operand) (t : TypeId)
    (ho : o.op = .call { callee := .builtin .append, args := #[s, x], argTypes := #[t, t] })
    (base : Nat) (e : TypeId) (i : TypeInfo) (z : Value) (sz bytes : Nat) (ht : P.underlying t = some (.slice e)) (hi : P.info? e = some i) (hz : i.zero = some z)
    (hsize : i.size = sz) (hby : i.bytes = bytes) (hzs : z.cells.size = sz) (hsz : 0 < sz)
    (v : Value) (n : Nat) (xs : List Value) (hs : a.eval s = v) (hown : w.ownsRow base e sz v n xs)
    (B : Nat) (A : Option Addr) (m c : Nat) (news : List Value) (hx : a.eval x = .slice A m c) (hr : Rd w B sz A m news) (h1 : ∀ u ∈ news, u.oneCell' = true)
    (h63 : n + m ≤ maxLen) (hbytes : (n + m) * bytes ≤ 140737488355328) (hbase : base ≤ w.heap.size)
    (h : ∀ v' w', w'.ownsRow base e sz v' (n + m) (xs ++ news) → w.grownBy w' v.ownBlock → (v'.ownBlock = v.ownBlock ∨ v'.ownBlock = some w.heap.size) → K (a.put o.dst v') w') : o.wp P a w K Q := by
 obtain ⟨v', w', hrun, h2, h3, h4⟩ := run_append_rd (P := P) w base t o.type e i z sz bytes ht hi hz hsize hby hzs hsz v n xs hown B A m c news hr h1 h63 hbytes hbase
 unfold Oper.wp execOp
 simp only [ho, resolve, invoke, builtin, Sem.run_bind, Sem.run_pure, Result.andThen_ok, List.map_toArray, List.map_cons, List.map_nil, hs, hx, hrun]
 exact h v' w' h2 h3 h4
theorem wpList_append_rd {ops : Array Oper} {rest : List Oper} {o : Oper} {a : Act} {Q : Exit → Act → World → Prop} (hgd : o.guard = none) (s x : Operand) (t : TypeId)
    (ho : o.op = .call { callee := .builtin .append, args := #[s, x], argTypes := #[t, t] })
    (base : Nat) (e : TypeId) (i : TypeInfo) (z : Value) (sz bytes : Nat) (ht : P.underlying t = some (.slice e)) (hi : P.info? e = some i) (hz : i.zero = some z)
    (hsize : i.size = sz) (hby : i.bytes = bytes) (hzs : z.cells.size = sz) (hsz : 0 < sz)
    (v : Value) (n : Nat) (xs : List Value) (hs : a.eval s = v) (hown : w.ownsRow base e sz v n xs)
    (B : Nat) (A : Option Addr) (m c : Nat) (news : List Value) (hx : a.eval x = .slice A m c) (hr : Rd w B sz A m news) (h1 : ∀ u ∈ news, u.oneCell' = true)
    (h63 : n + m ≤ maxLen) (hbytes : (n + m) * bytes ≤ 140737488355328) (hbase : base ≤ w.heap.size)
    (h : ∀ v' w', w'.ownsRow base e sz v' (n + m) (xs ++ news) → w.grownBy w' v.ownBlock → (v'.ownBlock = v.ownBlock ∨ v'.ownBlock = some w.heap.size) → wpList P ops Q rest (a.put o.dst v') w') : wpList P ops Q (o :: rest) a w :=
 wpList_plain hgd fun _ hK => wp_append_rd w s x t ho base e i z sz bytes ht hi hz hsize hby hzs hsz v n xs hs hown B A m c news hx hr h1 h63 hbytes hbase fun v' w' h2 h3 h4 => hK _ _ (h v' w' h2 h3 h4)
end
def ints (k : IntKind) (l : List Int) : List Value := l.map (Value.int k)
theorem ints_len (k : IntKind) (l : List Int) : (ints k l).length = l.length := by simp [ints]
theorem ints_one (k : IntKind) (l : List Int) : ∀ u ∈ ints k l, u.oneCell' = true := by
 intro u hu; obtain ⟨x, _, rfl⟩ := List.mem_map.1 hu; rfl
theorem ints_get (k : IntKind) (l : List Int) (i : Nat) (h : i < l.length) : (ints k l)[i]? = some (.int k (l.getD i 0)) := by
 simp [ints, List.getElem?_map, List.getD_eq_getElem?_getD, ai h]
theorem ints_app (k : IntKind) (l m : List Int) : ints k (l ++ m) = ints k l ++ ints k m := by simp [ints]
def RdI (w : World) (k : IntKind) (A : Option Addr) (l : List Int) : Prop := Rd w w.heap.size 1 A l.length (ints k l)
theorem RdI.up {w w' : World} {k : IntKind} {A : Option Addr} {l : List Int} (h : RdI w k A l) (hb : Below w.heap.size w w') : RdI w' k A l := Rd.up h hb
theorem RdI.at_ {w : World} {k : IntKind} {A : Option Addr} {l : List Int} (h : RdI w k A l) {i : Nat} (hi : i < l.length) :
    ∃ ad : Addr, A = some ad ∧ ad.block < w.heap.size ∧ w.cell? (ad.add i) = some (.int k (l.getD i 0)) := by
 obtain ⟨ad, e, hb, hc⟩ := h.2 (by omega)
 exact ⟨ad, e, hb, hc i _ (ints_get k l i hi)⟩
theorem RdI.get {w : World} {k : IntKind} {A : Option Addr} {l : List Int} (h : RdI w k A l) {i : Nat} (hi : i < l.length) :
    ∃ (ad : Addr) (x : Int), A = some ad ∧ ad.block < w.heap.size ∧ Hd (l.getD i 0 = x) ∧ w.cell? (ad.add i) = some (.int k x) := by
 obtain ⟨ad, e, hb, hc⟩ := h.at_ hi
 exact ⟨ad, _, e, hb, ⟨rfl⟩, hc⟩
theorem RdI.pre {w : World} {k : IntKind} {A : Option Addr} {l : List Int} (h : RdI w k A l) {m : Nat} (hm : m ≤ l.length) : RdI w k A (l.take m) := by
 have := Rd.pre (m := m) h hm
 unfold RdI
 rw [List.length_take, Nat.min_eq_left hm]
 rw [Nat.mul_one] at this
 simpa [ints, List.map_take] using this
theorem RdI.nil (w : World) (k : IntKind) (A : Option Addr) : RdI w k A [] := Rd.nil
def OwnI (w : World) (base : Nat) (e : TypeId) (k : IntKind) (v : Value) (l : List Int) : Prop := w.ownsRow base e 1 v l.length (ints k l)
theorem OwnI.reads {w : World} {base : Nat} {e : TypeId} {k : IntKind} {v : Value} {l : List Int} (h : OwnI w base e k v l) :
    ∃ A c, v = .slice A l.length c ∧ l.length ≤ c ∧ c ≤ maxLen ∧ RdI w k A l := by
 obtain ⟨A, c, hv, hl, hm⟩ : ∃ A c, v = .slice A l.length c ∧ l.length ≤ c ∧ c ≤ maxLen := by
  rcases h.2 with ⟨e1, h0⟩ | ⟨g, cap, cur, e1, _, _, h4, h5, _⟩
  ·exact ⟨_, _, by rw [h0]; exact e1, by omega, by unfold maxLen; omega⟩
  ·exact ⟨_, _, e1, h4, h5⟩
 subst hv
 exact ⟨A, c, rfl, hl, hm, Rd.of_own h⟩
theorem OwnI.nil (w : World) (base : Nat) (e : TypeId) (k : IntKind) : OwnI w base e k (.slice none 0 0) [] := ⟨rfl, .inl ⟨rfl, rfl⟩⟩
theorem OwnI.pre {w : World} {base : Nat} {e : TypeId} {k : IntKind} {A : Option Addr} {n c m : Nat} {l : List Int} (h : OwnI w base e k (.slice A n c) l) (hm : m ≤ l.length) : OwnI w base e k (.slice A m c) (l.take m) := by
 refine ⟨by rw [ints_len, Nat.mul_one], ?_⟩
 rcases h.2 with ⟨e1, h0⟩ | ⟨g, cap, cur, e1, h2, h3, h4, h5, h6, h7⟩
 ·injection e1 with a1 a2 a3
  subst a1 a3
  exact .inl ⟨by rw [show m = 0 by omega], by rw [List.length_take]; omega⟩
 ·injection e1 with a1 a2 a3
  subst a1 a3
  refine .inr ⟨g, c, cur, by rw [List.length_take, Nat.min_eq_left hm], h2, h3, by rw [List.length_take]; omega, h5, h6, ?_⟩
  rw [List.length_take, Nat.min_eq_left hm, Nat.mul_one]
  rw [Nat.mul_one] at h7
  have := congrArg (List.take m) h7
  rw [List.take_take, Nat.min_eq_left hm] at this
  rw [this]; simp [ints, List.map_take]
theorem OwnI.low {w : World} {base base' : Nat} {e : TypeId} {k : IntKind} {v : Value} {l : List Int} (h : OwnI w base e k v l) (hb : base' ≤ base) : OwnI w base' e k v l := by
 refine ⟨h.1, ?_⟩
 rcases h.2 with h1 | ⟨g, cap, cur, e1, h2, r⟩
 ·exact .inl h1
 ·exact .inr ⟨g, cap, cur, e1, ah hb h2, r⟩
theorem OwnI.below {w w' : World} {base : Nat} {e : TypeId} {k : IntKind} {v : Value} {l : List Int} (h : OwnI w base e k v l) (hb : Below w.heap.size w w') : OwnI w' base e k v l := by
 refine ⟨h.1, ?_⟩
 rcases h.2 with h1 | ⟨g, cap, cur, e1, h2, h3, r⟩
 ·exact .inl h1
 ·refine .inr ⟨g, cap, cur, e1, h2, ?_, r⟩
  rcases Nat.lt_or_ge g w.heap.size with hg | hg
  ·exact (hb.block g hg).trans h3
  ·rw [Array.getElem?_eq_none hg] at h3; cases h3
theorem Rd.new_ (w : World) (cs : Array Value) (t : TypeId) (n sz : Nat) (h : cs.size = n * sz) : Rd (w.alloc (.cells cs t)) (w.heap.size + 1) sz (some ⟨w.heap.size, 0, none⟩) n cs.toList := by
 refine ⟨by simpa using h, fun _ => ⟨_, rfl, by simp, fun j u hu => ?_⟩⟩
 have : ((⟨w.heap.size, 0, none⟩ : Addr).add j) = ⟨w.heap.size, j, none⟩ := by
  unfold Addr.add; split
  ·subst_vars; rfl
  ·simp
 rw [this, World.cell?_alloc_new]
 simpa using hu
theorem OwnI.al {w : World} {base : Nat} {e : TypeId} {k : IntKind} {v : Value} {l : List Int} (h : OwnI w base e k v l) (o : Obj) : OwnI (w.alloc o) base e k v l := World.ownsRow.alloc h o
theorem OwnI.dn {w : World} {base : Nat} {e : TypeId} {k : IntKind} {v : Value} {l : List Int} (h : OwnI w base e k v l) (n : Nat) : OwnI (w.drewN n) base e k v l := h
theorem OwnI.cell {w : World} {base : Nat} {e : TypeId} {k : IntKind} {v : Value} {l : List Int} (h : OwnI w base e k v l) {i : Nat} (hi : i < l.length) :
    ∃ g c x, v = .slice (some ⟨g, 0, none⟩) l.length c ∧ base ≤ g ∧ g < w.heap.size ∧ Hd (l.getD i 0 = x) ∧ w.cell? ⟨g, i, none⟩ = some (.int k x) ∧ w.frozen? ⟨g, i, none⟩ = false ∧ ∀ y, OwnI (w.setCell ⟨g, i, none⟩ (.int k y)) base e k (.slice (some ⟨g, 0, none⟩) l.length c) (l.set i y) := by
 obtain ⟨g, c, rfl, hb, hg⟩ := World.ownsRow.form h (by omega : 0 < l.length)
 have hc : w.cell? ⟨g, i, none⟩ = some (.int k (l.getD i 0)) := by
  rw [World.ownsRow.cellAt h i (by omega), ints_get k l i hi]
 refine ⟨g, c, _, rfl, hb, hg, ⟨rfl⟩, hc, World.ownsRow.frozenAt h i, fun y => ?_⟩
 have := (World.ownsRow.stored h i (.int k y)).1
 unfold OwnI
 rw [List.length_set]
 simpa [ints, List.map_set] using this
theorem grown_below {w w' : World} {base : Nat} {e : TypeId} {sz n : Nat} {v : Value} {xs : List Value} (h : w.ownsRow base e sz v n xs) (hg : w.grownBy w' v.ownBlock) {W : World} (hb : Below base W w) (hB : base ≤ w.heap.size) : Below base W w' :=
 hb.grown hg hB (fun k hk => (h.lt k hk).1)
theorem OwnI.put {w : World} {base : Nat} {e : TypeId} {k : IntKind} {g n c : Nat} {l : List Int} (h : OwnI w base e k (.slice (some ⟨g, 0, none⟩) n c) l) {i : Nat} (hi : i < l.length) (y : Int) :
    OwnI (w.setCell ⟨g, i, none⟩ (.int k y)) base e k (.slice (some ⟨g, 0, none⟩) n c) (l.set i y) := by
 obtain ⟨g', c', x, hv, _, _, _, _, _, hset⟩ := h.cell hi
 injection hv with hv1 hv2 hv3
 injection hv1 with hv1
 injection hv1 with hv1
 subst hv1 hv2 hv3
 exact hset y
def Bk (w : World) (g : Nat) (t : TypeId) (cs : Array Value) : Prop := w.heap[g]? = some (.cells cs t (0, 0))
section
variable {w w' : World} {g : Nat} {t : TypeId} {cs : Array Value}
theorem Bk.lt (h : Bk w g t cs) : g < w.heap.size := by
 rcases Nat.lt_or_ge g w.heap.size with hl | hl
 ·exact hl
 ·unfold Bk at h; rw [Array.getElem?_eq_none hl] at h; cases h
theorem Bk.cell (h : Bk w g t cs) (i : Nat) : w.cell? ⟨g, i, none⟩ = cs[i]? := by unfold Bk at h; simp [World.cell?, h]
theorem Bk.froz (h : Bk w g t cs) (i : Nat) : w.frozen? ⟨g, i, none⟩ = false := by unfold Bk at h; simp [World.frozen?, h]
theorem Bk.new_ (w : World) (t : TypeId) (cs : Array Value) : Bk (w.alloc (.cells cs t)) w.heap.size t cs := by
 show (w.heap.push _)[w.heap.size]? = _
 simp
theorem Bk.al (h : Bk w g t cs) (o : Obj) : Bk (w.alloc o) g t cs := (Below.heap_alloc w o g h.lt).trans h
theorem Bk.dn (h : Bk w g t cs) (n : Nat) : Bk (w.drewN n) g t cs := h
theorem Bk.d1 (h : Bk w g t cs) : Bk w.drew g t cs := h
theorem Bk.set_ (h : Bk w g t cs) (i : Nat) (u : Value) : Bk (w.setCell ⟨g, i, none⟩ u) g t (cs.setIfInBounds i u) := by
 unfold Bk at *
 simp [World.setCell, Array.getElem?_modify, h]
theorem Bk.far (h : Bk w g t cs) {p : Addr} (hp : g ≠ p.block) (u : Value) : Bk (w.setCell p u) g t cs := (Below.heap_setCell w p u g hp).trans h
theorem Bk.below {B : Nat} (h : Bk w g t cs) (hb : Below B w w') (hg : g < B) : Bk w' g t cs := (hb.block g hg).trans h
theorem Bk.up (h : Bk w g t cs) (hb : Below w.heap.size w w') : Bk w' g t cs := h.below hb h.lt
theorem Bk.grown {row : Option Nat} (h : Bk w g t cs) (hb : w.grownBy w' row) (hg : some g ≠ row) : Bk w' g t cs := (hb.block g h.lt hg).trans h
theorem Bk.ne_ {g' : Nat} {t' : TypeId} {cs' : Array Value} (h : Bk w g t cs) (h' : Bk w g' t' cs') (hne : t ≠ t') : g ≠ g' := by
 rintro rfl
 unfold Bk at *
 rw [h] at h'
 injection h' with h'
 injection h' with _ h'
 exact hne h'
end
theorem OwnI.d1 {w : World} {base : Nat} {e : TypeId} {k : IntKind} {v : Value} {l : List Int} (h : OwnI w base e k v l) : OwnI w.drew base e k v l := h
theorem OwnI.far {w : World} {base : Nat} {e : TypeId} {k : IntKind} {v : Value} {l : List Int} (h : OwnI w base e k v l) {p : Addr} (hp : v.ownBlock ≠ some p.block) (u : Value) : OwnI (w.setCell p u) base e k v l := by
 refine ⟨h.1, ?_⟩
 rcases h.2 with h1 | ⟨g, cap, cur, rfl, h2, h3, r⟩
 ·exact .inl h1
 ·exact .inr ⟨g, cap, cur, rfl, h2, (Below.heap_setCell w p u g (fun e => hp (by rw [← e]; rfl))).trans h3, r⟩
theorem own_ne {w : World} {base g : Nat} {e t : TypeId} {sz n : Nat} {v : Value} {xs : List Value} {cs : Array Value} (h : w.ownsRow base e sz v n xs) (hb : Bk w g t cs) (hne : e ≠ t) : v.ownBlock ≠ some g := by
 rcases h.2 with ⟨rfl, _⟩ | ⟨g', cap, cur, rfl, h2, h3, r⟩
 ·simp [Value.ownBlock]
 ·intro e1
  have : g' = g := by simpa [Value.ownBlock] using e1
  exact Bk.ne_ (show Bk w g' e cur from h3) hb hne this
theorem info_split {P : Program} {t : TypeId} {z : Value} {s b : Nat} (h : (P.info? t).map (fun i => (i.zero, i.size, i.bytes)) = some (some z, s, b)) :
    ∃ i, P.info? t = some i ∧ i.zero = some z ∧ i.size = s ∧ i.bytes = b := by
 cases hi : P.info? t with
 | none => rw [hi] at h; cases h
 | some i => rw [hi] at h; simp at h; exact ⟨i, rfl, h.1, h.2.1, h.2.2⟩
def Dr (w w' : World) : Prop := ∃ n, w' = w.drewN n
theorem Dr.refl (w : World) : Dr w w := ⟨0, rfl⟩
theorem Dr.dn {w W : World} (h : Dr w W) (n : Nat) : Dr w (W.drewN n) := by
 obtain ⟨m, rfl⟩ := h
 exact ⟨m + n, World.drewN_drewN ..⟩
theorem Dr.trans {a b c : World} (h : Dr a b) (k : Dr b c) : Dr a c := by
 obtain ⟨n, rfl⟩ := k
 exact h.dn n
theorem Dr.below {w w' : World} (h : Dr w w') : Below w.heap.size w w' := by
 obtain ⟨n, rfl⟩ := h
 exact ⟨rfl, rfl, rfl, ae _, fun _ _ => rfl⟩
theorem Below.dn {B : Nat} {a w : World} (h : Below B a w) (n : Nat) : Below B a (w.drewN n) := ⟨h.os, h.tape, h.output, h.size, h.block⟩
theorem retInt {k : IntKind} {a b : Int} (h : a = b) : Ending.returned (.int k a) = .returned (.int k b) := by rw [h]
theorem retBool {a b : Bool} (h : a = b) : Ending.returned (.bool a) = .returned (.bool b) := by rw [h]
theorem Tryz.slU64 : Tryz.prog.underlying 61 = some (.slice 112) := by kernel_rfl
theorem Tryz.slNat : Tryz.prog.underlying 62 = some (.slice 112) := by kernel_rfl
theorem Tryz.infU64 : (Tryz.prog.info? 112).map (fun i => (i.zero, i.size, i.bytes)) = some (some (.int .u64 0), 1, 8) := by kernel_rfl
theorem Tryz.infSl : (Tryz.prog.info? 61).map (fun i => (i.zero, i.size, i.bytes)) = some (some (.slice none 0 0), 1, 24) := by kernel_rfl
theorem Tryz.slSl : Tryz.prog.underlying 253 = some (.slice 61) := by kernel_rfl
end Go.Proofs.YtgjkgkgieeoalaaGreat
