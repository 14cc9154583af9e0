/- Parts of the proof, joined: each theorem says what it shows. -/
import Derived.Test.YtgjkgkgieeoalaaGreatC13
set_option linter.unusedVariables false
set_option linter.unusedSimpArgs false
set_option maxHeartbeats 24000000
set_option maxRecDepth 100000
namespace Go.Proofs.YtgjkgkgieeoalaaGreat
open Go.RowKit
def Wn (w : World) (g c : Nat) (l : List Int) : Prop := ∃ cur : List Value, Bk w g 112 cur.toArray ∧ cur.length = c ∧ l.length ≤ c ∧ cur.take l.length = ints .u64 l
section
variable {w w' : World} {g c : Nat} {l : List Int}
theorem Wn.lt (h : Wn w g c l) : g < w.heap.size := let ⟨_, hb, _⟩ := h; hb.lt
theorem Wn.of_own {base : Nat} {v : Value} (h : OwnI w base 112 .u64 v l) (hl : 0 < l.length) : ∃ g c, v = .slice (some ⟨g, 0, none⟩) l.length c ∧ base ≤ g ∧ l.length ≤ c ∧ c ≤ maxLen ∧ Wn w g c l := by
 rcases h.2 with ⟨_, h0⟩ | ⟨g, cap, cur, e1, h2, h3, h4, h5, h6, h7⟩
 ·omega
 ·exact ⟨g, cap, e1, h2, h4, h5, cur.toList, by simpa [Bk] using h3, by simpa using h6, h4, by simpa using h7⟩
theorem Wn.rd (h : Wn w g c l) : RdI w .u64 (some ⟨g, 0, none⟩) l := by
 obtain ⟨cur, hb, h1, h2, h3⟩ := h
 exact Rd.win hb (by simpa using h3) rfl
theorem Wn.own (h : Wn w g c l) {base : Nat} (hb : base ≤ g) (hc : c ≤ maxLen) : OwnI w base 112 .u64 (.slice (some ⟨g, 0, none⟩) l.length c) l := by
 obtain ⟨cur, hk, h1, h2, h3⟩ := h
 exact ⟨by simp [ints], .inr ⟨g, c, cur.toArray, rfl, hb, hk, h2, hc, by simpa using h1, by simpa using h3⟩⟩
theorem Wn.below {B : Nat} (h : Wn w g c l) (hb : Below B w w') (hg : g < B) : Wn w' g c l := let ⟨cur, hk, r⟩ := h; ⟨cur, hk.below hb hg, r⟩
theorem Wn.up (h : Wn w g c l) (hb : Below w.heap.size w w') : Wn w' g c l := h.below hb h.lt
theorem Wn.grown {row : Option Nat} (h : Wn w g c l) (hb : w.grownBy w' row) (hg : some g ≠ row) : Wn w' g c l := let ⟨cur, hk, r⟩ := h; ⟨cur, hk.grown hb hg, r⟩
theorem Wn.far (h : Wn w g c l) {p : Addr} (hp : g ≠ p.block) (u : Value) : Wn (w.setCell p u) g c l := let ⟨cur, hk, r⟩ := h; ⟨cur, hk.far hp u, r⟩
theorem Wn.al (h : Wn w g c l) (o : Obj) : Wn (w.alloc o) g c l := let ⟨cur, hk, r⟩ := h; ⟨cur, hk.al o, r⟩
theorem Wn.dn (h : Wn w g c l) (n : Nat) : Wn (w.drewN n) g c l := h
theorem Wn.cell (h : Wn w g c l) {i : Nat} (hi : i < l.length) : w.cell? ⟨g, i, none⟩ = some (.int .u64 (l.getD i 0)) ∧ w.frozen? ⟨g, i, none⟩ = false := by
 obtain ⟨cur, hk, h1, h2, h3⟩ := h
 refine ⟨?_, hk.froz i⟩
 rw [hk.cell, ← ints_get .u64 l i hi, ← h3, List.getElem?_take_of_lt hi]
 simp
theorem Wn.set (h : Wn w g c l) {i : Nat} (hi : i < l.length) (x : Int) : Wn (w.setCell ⟨g, i, none⟩ (.int .u64 x)) g c (l.set i x) := by
 obtain ⟨cur, hk, h1, h2, h3⟩ := h
 refine ⟨cur.set i (.int .u64 x), by simpa using hk.set_ i (.int .u64 x), by simpa using h1, by simpa using h2, ?_⟩
 rw [List.length_set, List.take_set, h3]
 simp [ints, List.map_set]
theorem Wn.new_ (w : World) (n : Nat) : Wn (w.alloc (.cells (zer n) 112)) w.heap.size n (List.replicate n 0) :=
 ⟨(zer n).toList, by simpa using Bk.new_ w 112 (zer n), by simp [zer, ints], by simp, by rw [zer_list]; exact List.take_of_length_le (by simp [ints])⟩
theorem splice_take {α : Type} (L : List α) (i n : Nat) (cs : List α) (h : i + cs.length ≤ n) (hn : n ≤ L.length) : (splice L i cs).take n = splice (L.take n) i cs := by
 unfold splice
 rw [List.take_take, Nat.min_eq_left (by omega), List.take_append, List.length_take, Nat.min_eq_left (by omega), List.take_of_length_le (l := L.take i) (by rw [List.length_take]; omega)]
 congr 1
 rw [List.take_append, List.take_of_length_le (by omega)]
 congr 1
 rw [List.take_drop]
 congr 2
 omega
theorem ints_splice (k : IntKind) (l : List Int) (i : Nat) (r : List Int) : ints k (splice l i r) = splice (ints k l) i (ints k r) := by
 simp [ints, splice, List.map_take, List.map_drop]
theorem Wn.splice {R : List Int} {i : Nat} {cur : List Value} (h1 : cur.length = c) (h2 : l.length ≤ c) (h3 : cur.take l.length = ints .u64 l) (hi : i + R.length ≤ l.length) (hk : Bk w' g 112 (Go.splice cur i (ints .u64 R)).toArray) : Wn w' g c (Go.splice l i R) := by
 have e := length_splice l i R hi
 refine ⟨_, hk, ?_, by omega, ?_⟩
 ·rw [length_splice _ _ _ (by rw [ints_len]; omega)]; exact h1
 ·rw [e, splice_take _ _ _ _ (by rw [ints_len]; omega) (by omega), h3, ints_splice]
end
theorem U64.splice {l R : List Int} (h : U64 l) (hR : U64 R) (i : Nat) : U64 (splice l i R) := (h.take i).app (hR.app (h.drop _))
theorem div_win {os : List Int} {n i V : Nat} (hu : U64 os) (hin : i + n + 1 ≤ os.length) (hV : V < 18446744073709551616 ^ n) (hlt : val (os.drop (i + 1)) < V) :
    val (os.drop (i + n + 1)) = 0 ∧ val (os.drop i) = val ((os.drop i).take (n + 1)) ∧ val ((os.drop i).take (n + 1)) < 18446744073709551616 * V := by
 have h0 := val_take_drop (os.drop (i + 1)) n (by rw [List.length_drop]; omega)
 rw [List.drop_drop, show i + 1 + n = i + n + 1 by omega] at h0
 have z : val (os.drop (i + n + 1)) = 0 := by
  rcases Nat.eq_zero_or_pos (val (os.drop (i + n + 1))) with h | h
  ·exact h
  ·have := Nat.le_mul_of_pos_right (18446744073709551616 ^ n) h
   omega
 have h1 := val_take_drop (os.drop i) (n + 1) (by rw [List.length_drop]; omega)
 rw [List.drop_drop, show i + (n + 1) = i + n + 1 by omega, z, Nat.mul_zero, Nat.add_zero] at h1
 refine ⟨z, h1, ?_⟩
 rw [← h1, drop_at (l := os) (by omega), val]
 have := hu.at_ i
 omega
theorem div_done {os qs R : List Int} {n i V A D : Nat} (hin : i + n + 1 ≤ os.length) (hq : i < qs.length) (hR : R.length = n + 1) (z : val (os.drop (i + n + 1)) = 0) (h1 : val (os.drop i) = val ((os.drop i).take (n + 1)))
    (hD : D = val ((os.drop i).take (n + 1)) / V) (hr : val R = val ((os.drop i).take (n + 1)) % V) (hV : 0 < V)
    (hinv : val os + 18446744073709551616 ^ (i + 1) * (val (qs.drop (i + 1)) * V) = A) :
    val ((splice os i R).drop i) < V ∧ val (splice os i R) + 18446744073709551616 ^ i * (val ((qs.set i D).drop i) * V) = A := by
 have e1 : (splice os i R).drop i = R ++ os.drop (i + n + 1) := by
  unfold splice
  rw [List.drop_append, List.drop_of_length_le (by rw [List.length_take]; omega), List.length_take, Nat.min_eq_left (by omega), Nat.sub_self, List.drop_zero, List.nil_append, hR, show i + (n + 1) = i + n + 1 by omega]
 have e2 : (splice os i R).take i = os.take i := by
  unfold splice
  rw [List.take_append, List.take_of_length_le (by rw [List.length_take]; omega), List.length_take, Nat.min_eq_left (by omega), Nat.sub_self, List.take_zero, List.append_nil]
 have e3 : val ((splice os i R).drop i) = val R := by rw [e1, val_app, z, Nat.mul_zero, Nat.add_zero]
 have hsl : i ≤ (splice os i R).length := by rw [length_splice _ _ _ (by omega)]; omega
 refine ⟨by rw [e3, hr]; exact Nat.mod_lt _ hV, ?_⟩
 rw [val_take_drop (splice os i R) i hsl, e2, e3, hr]
 rw [val_take_drop os i (by omega), h1] at hinv
 rw [drop_at (l := qs.set i D) (by rw [List.length_set]; exact hq), val, List.drop_set_of_lt (by omega)]
 have e4 : (qs.set i (D : Int)).getD i 0 = D := by rw [List.getD_eq_getElem?_getD, List.getElem?_set_self hq]; rfl
 rw [e4, Int.toNat_natCast]
 generalize val ((os.drop i).take (n + 1)) = U at *
 have h5 := Nat.div_add_mod U V
 rw [← hD] at h5
 rw [Nat.pow_succ] at hinv
 generalize 18446744073709551616 ^ i = P at *
 generalize val (qs.drop (i + 1)) = Q at *
 generalize val (os.take i) = T at *
 rw [← hinv, Nat.add_mul, Nat.mul_add, Nat.add_assoc, ← Nat.add_assoc (P * (U % V)), ← Nat.mul_add]
 rw [show U % V + D * V = U by rw [Nat.mul_comm D]; omega, Nat.mul_assoc, Nat.mul_assoc, Nat.add_assoc]
theorem div_end {a m A os qs s : Nat} (hA : A = a * 2 ^ s) (hlt : os < m * 2 ^ s) (h : os + qs * (m * 2 ^ s) = A) : qs = a / m ∧ os / 2 ^ s = a % m := by
 have p : 0 < 2 ^ s := Nat.pow_pos (by decide)
 have h1 : A / (m * 2 ^ s) = qs := by
  rw [← h, Nat.add_mul_div_right _ _ (by omega), Nat.div_eq_of_lt hlt, Nat.zero_add]
 have h2 : A % (m * 2 ^ s) = os := by
  rw [← h, Nat.add_mul_mod_self_right, Nat.mod_eq_of_lt hlt]
 rw [hA, Nat.mul_div_mul_right _ _ p] at h1
 rw [hA, Nat.mul_mod_mul_right] at h2
 exact ⟨h1.symm, by rw [← h2, Nat.mul_div_cancel _ p]⟩
theorem quot_Div_one (A B : Option Addr) (c d : Nat) (l m : List Int) (w : World) (h : RdI w .u64 A l) (hn : l.length ≤ c) (h' : RdI w .u64 B m) (hn' : m.length ≤ d) (hu : U64 l) (hu' : U64 m)
    (hm : natMay l = true) (hm' : natMay m = true) (h1 : m.length = 1) :
    Calls Tryz.prog 233 #[.slice A l.length c, .slice B m.length d] w fun e w' => ∃ v u, e = .returned (.tuple #[v, u, .int .i64 0]) ∧ OwnI w' w.heap.size 112 .u64 v (limbs (val l / val m)) ∧
     OwnI w' w.heap.size 112 .u64 u (limbs (val l % val m)) ∧ Below w.heap.size w w' := by
 have hl8 := natMay_len hm
 have C1 := Hd.mk (nat_May A c l w h hn (by omega))
 have C2 := Hd.mk (nat_May B d m w h' hn' (by omega))
 rw [hm] at C1
 rw [hm'] at C2
 obtain ⟨bd, y, rfl, _, hy, hcy⟩ := h'.get (i := 0) (by omega)
 have hcy0 : w.cell? bd = some (.int .u64 y) := by simpa [Addr.add] using hcy
 have hy0 := hu'.at_ 0
 rw [hy.out] at hy0
 have htr := natMay_trim hm'
 have hyn : y ≠ 0 := by
  rcases htr with h2 | h2
  ·rw [h2] at h1; cases h1
  ·rw [h1] at h2; rw [← hy.out]; exact h2
 have hvm : val m = y.toNat := by rw [val_top (m := 0) h1, hy.out]; simp [val]
 have CS := Hd.mk (quot_Small A c l y y.toNat (by omega) w h hn hu hm (by omega) (by omega))
 rw [← hvm] at CS
 have HV := Hd.mk hvm
 have HYN : Hd (0 < y.toNat) := ⟨by omega⟩
 have HM := Hd.mk (And.intro hm hm')
 have e1 : ((m.length : Int) == 0) = false := by rw [beq_eq_false_iff_ne]; omega
 have e2 : ((m.length : Int) == 1) = true := by rw [beq_iff_eq]; omega
 have e3 : (0 : Int) < m.length := by omega
 have H1 := Hd.mk h1
 clear hm hm' hvm htr h h' hy hyn h1
 go_enter Tryz.func233, Tryz.ntmps233
 go_wp2_with fail
 refine C1.out.mono ?_
 rintro e w' ⟨rfl, rfl⟩
 go_wp2_with fail
 refine C2.out.mono ?_
 rintro e w' ⟨rfl, rfl⟩
 clear C1 C2
 go_wp2_with fail
 refine CS.out.mono ?_
 rintro e w2 ⟨v, rfl, ho, hb⟩
 have HO := Hd.mk ho
 have HB := Hd.mk hb
 have hlt : Hd (val l % val m < 18446744073709551616) := ⟨Nat.lt_trans (Nat.mod_lt _ (by rw [HV.out]; exact HYN.out)) (by rw [HV.out]; omega)⟩
 have CO := Hd.mk (nat_Of (val l % val m : Nat) w2 (by omega) (by have := hlt.out; omega))
 clear ho hb
 go_wp2_with fail
 refine CO.out.mono ?_
 rintro e w3 ⟨u, rfl, ho, hb⟩
 have HO3 := Hd.mk ho
 have HB3 := Hd.mk hb
 clear ho hb
 go_wp2_with fail
 go_ret3
 refine ⟨_, _, rfl, HO.out.below HB3.out, ?_, HB.out.trans (HB3.out.mono HB.out.size)⟩
 have := HO3.out.low HB.out.size
 rwa [Int.toNat_natCast] at this
theorem quot_Div_lt (A B : Option Addr) (c d : Nat) (l m : List Int) (w : World) (h : RdI w .u64 A l) (hn : l.length ≤ c) (h' : RdI w .u64 B m) (hn' : m.length ≤ d) (hu : U64 l) (hu' : U64 m)
    (hm : natMay l = true) (hm' : natMay m = true) (h1 : 2 ≤ m.length) (hlt : val l < val m) :
    Calls Tryz.prog 233 #[.slice A l.length c, .slice B m.length d] w fun e w' => ∃ v u, e = .returned (.tuple #[v, u, .int .i64 0]) ∧ OwnI w' w.heap.size 112 .u64 v (limbs (val l / val m)) ∧
     OwnI w' w.heap.size 112 .u64 u (limbs (val l % val m)) ∧ Below w.heap.size w w' := by
 have hl8 := natMay_len hm
 have hm8 := natMay_len hm'
 have C1 := Hd.mk (nat_May A c l w h hn (by omega))
 have C2 := Hd.mk (nat_May B d m w h' hn' (by omega))
 rw [hm] at C1
 rw [hm'] at C2
 have C3 := Hd.mk (limb_Cmp A B c d l m w h hn (by omega) h' hn' (by omega) hu hu')
 rw [cmpN_lt hlt] at C3
 have e1 : ((m.length : Int) == 0) = false := by rw [beq_eq_false_iff_ne]; omega
 have e2 : ((m.length : Int) == 1) = false := by rw [beq_eq_false_iff_ne]; omega
 have HL := Hd.mk (And.intro (And.intro hm hlt) h)
 have HU := Hd.mk hu
 clear hm hm' hlt h h' hu hu'
 go_enter Tryz.func233, Tryz.ntmps233
 go_wp2_with fail
 refine C1.out.mono ?_
 rintro e w' ⟨rfl, rfl⟩
 go_wp2_with fail
 refine C2.out.mono ?_
 rintro e w' ⟨rfl, rfl⟩
 clear C1 C2
 go_wp2_with fail
 refine C3.out.mono ?_
 rintro e w' ⟨rfl, ⟨nq, rfl⟩⟩
 have CT := Hd.mk (limb_Trim A c l (w.drewN nq) HL.out.2 hn (by omega))
 go_wp2_with fail
 refine CT.out.mono ?_
 rintro e w2 ⟨v, rfl, ho, hb⟩
 have HO := Hd.mk ho
 have HB := Hd.mk hb
 clear ho hb
 go_wp2_with fail
 go_ret3
 refine ⟨_, _, rfl, ?_, ?_, ?_⟩
 ·rw [Nat.div_eq_of_lt HL.out.1.2, limbs_zero]; exact OwnI.nil _ _ _ _
 ·rw [Nat.mod_eq_of_lt HL.out.1.2, ← trim_limbs HU.out]; exact HO.out
 ·exact (Dr.below ⟨nq, rfl⟩).trans HB.out
theorem quot_digit_k (g off c' d k : Nat) (B : Option Addr) (cur : List Value) (U V : List Int) (w : World) (hk : U.length = k) (hb : Bk w g 112 cur.toArray) (hU : (cur.drop off).take U.length = ints .u64 U) (hc' : U.length ≤ c')
    (hV : RdI w .u64 B V) (hd : V.length ≤ d) (uU : U64 U) (uV : U64 V) (hu9 : U.length ≤ 90000000) (hv1 : 0 < V.length) (hUV : U.length = V.length + 1) (hlt : val U < 18446744073709551616 * val V) :
    Calls Tryz.prog 279 #[.slice (some ⟨g, off, none⟩) k c', .slice B V.length d] w fun e w' =>
     e = .returned (.int .u64 (val U / val V : Nat)) ∧ w.grownBy w' (some g) ∧ ∃ R, Bk w' g 112 (splice cur off (ints .u64 R)).toArray ∧ R.length = U.length ∧ U64 R ∧ val R = val U % val V := by
 subst hk
 exact quot_digit g off c' d B cur U V w hb hU hc' hV hd uU uV hu9 hv1 hUV hlt
theorem win_ints {cur : List Value} {os : List Int} {i n : Nat} (h : cur.take os.length = ints .u64 os) (hi : i + n ≤ os.length) : (cur.drop i).take n = ints .u64 ((os.drop i).take n) := by
 have : ints .u64 ((os.drop i).take n) = ((ints .u64 os).drop i).take n := by simp [ints, List.map_take, List.map_drop]
 rw [this, ← h, List.drop_take, List.take_take, Nat.min_eq_left (by omega)]
theorem div_start {a s m : Nat} (a2 b2 : List Int) (ha : a2 = limbs (a * 2 ^ s)) (hb : b2 = limbs (m * 2 ^ s)) (hm : 0 < m) (hle : m ≤ a) :
    0 < b2.length ∧ b2.length ≤ a2.length ∧ val (a2 ++ [0, 0]) = a * 2 ^ s ∧ val b2 = m * 2 ^ s ∧ val ((a2 ++ [0, 0]).drop (a2.length + 2 - b2.length)) < val b2 := by
 have p : 0 < 2 ^ s := Nat.pow_pos (by decide)
 have hva : val a2 = a * 2 ^ s := by rw [ha, val_limbs]
 have hvb : val b2 = m * 2 ^ s := by rw [hb, val_limbs]
 have hmp : 0 < m * 2 ^ s := Nat.mul_pos hm p
 have hle2 : m * 2 ^ s ≤ a * 2 ^ s := Nat.mul_le_mul_right _ hle
 have h1 : 0 < b2.length := by
  rcases Nat.eq_zero_or_pos b2.length with h | h
  ·have := List.eq_nil_of_length_eq_zero h
   rw [this] at hvb; simp [val] at hvb; omega
  ·exact h
 have h2 : b2.length ≤ a2.length := by
  rw [hb, limbs_len]
  have := val_lt (l := a2) (by rw [ha]; exact limbs_u64 _)
  omega
 have h3 : val (a2 ++ [0, 0]) = a * 2 ^ s := by rw [val_app]; simp [val]; exact hva
 refine ⟨h1, h2, h3, hvb, ?_⟩
 have h4 : 18446744073709551616 ^ (b2.length - 1) ≤ val b2 := by
  rcases Nat.lt_or_ge (val b2) (18446744073709551616 ^ (b2.length - 1)) with h | h
  ·have h5 : (limbs (val b2)).length ≤ b2.length - 1 := limbs_len.2 h
   rw [hvb, ← hb] at h5
   omega
  ·exact h
 rcases Nat.lt_or_ge (val ((a2 ++ [0, 0]).drop (a2.length + 2 - b2.length))) (val b2) with h | h
 ·exact h
 ·exfalso
  have h5 := val_take_drop (a2 ++ [0, 0]) (a2.length + 2 - b2.length) (by simp)
  have h6 := val_lt (l := a2) (by rw [ha]; exact limbs_u64 _)
  have h7 : 18446744073709551616 ^ (a2.length + 2 - b2.length) * 18446744073709551616 ^ (b2.length - 1) ≤ 18446744073709551616 ^ (a2.length + 2 - b2.length) * val ((a2 ++ [0, 0]).drop (a2.length + 2 - b2.length)) := Nat.mul_le_mul_left _ (by omega)
  rw [← Nat.pow_add, show a2.length + 2 - b2.length + (b2.length - 1) = a2.length + 1 by omega, Nat.pow_succ] at h7
  have h8 : 0 < 18446744073709551616 ^ a2.length := Nat.pow_pos (by decide)
  omega
theorem quot_Div_main (A B : Option Addr) (c d : Nat) (l m : List Int) (w : World) (h : RdI w .u64 A l) (hn : l.length ≤ c) (h' : RdI w .u64 B m) (hn' : m.length ≤ d) (hu : U64 l) (hu' : U64 m)
    (hm : natMay l = true) (hm' : natMay m = true) (h1 : 2 ≤ m.length) (hle : val m ≤ val l) :
    Calls Tryz.prog 233 #[.slice A l.length c, .slice B m.length d] w fun e w' => ∃ v u, e = .returned (.tuple #[v, u, .int .i64 0]) ∧ OwnI w' w.heap.size 112 .u64 v (limbs (val l / val m)) ∧
     OwnI w' w.heap.size 112 .u64 u (limbs (val l % val m)) ∧ Below w.heap.size w w' := by
 obtain ⟨i0, hi, hz0, hz1, hz2⟩ := info_split Tryz.infU64
 have hl8 := natMay_len hm
 have hm8 := natMay_len hm'
 have C1 := Hd.mk (nat_May A c l w h hn (by omega))
 have C2 := Hd.mk (nat_May B d m w h' hn' (by omega))
 rw [hm] at C1
 rw [hm'] at C2
 have C3 := Hd.mk (limb_Cmp A B c d l m w h hn (by omega) h' hn' (by omega) hu hu')
 obtain ⟨cm, hcm, hcm0⟩ : ∃ cm, cmpN (val l) (val m) = cm ∧ 0 ≤ cm := ⟨_, rfl, by unfold cmpN; split; omega; split <;> omega⟩
 rw [hcm] at C3
 have e0 : decide (cm < 0) = false := decide_eq_false (by omega)
 have e1 : ((m.length : Int) == 0) = false := by rw [beq_eq_false_iff_ne]; omega
 have e2 : ((m.length : Int) == 1) = false := by rw [beq_eq_false_iff_ne]; omega
 obtain ⟨bd, y, rfl, hbl, hy, hcy⟩ := h'.get (i := m.length - 1) (by omega)
 obtain ⟨N1, hN1⟩ : ∃ N1, m.length - 1 = N1 := ⟨_, rfl⟩
 rw [hN1] at hy hcy
 have n1 : IntKind.i64.wrap ((m.length : Int) - 1) = N1 := by rw [IntKind.wrap_i64]; omega
 have n1' : (m.length : Int) - 1 = N1 := by omega
 have n4 : (N1 : Int) < m.length := by omega
 have hy0 := hu'.at_ N1
 rw [hy.out] at hy0
 have hyn : y ≠ 0 := by
  rcases natMay_trim hm' with h2 | h2
  ·rw [h2] at h1; simp at h1
  ·rw [hN1] at h2; rw [← hy.out]; exact h2
 have hy1 : 0 < y := by omega
 have hmp : Hd (0 < val m) := ⟨by
  rw [val_top (l := m) (m := N1) (by omega), hy.out]
  have := Nat.pow_pos (n := N1) (show 0 < 18446744073709551616 by decide)
  have : 0 < 18446744073709551616 ^ N1 * y.toNat := Nat.mul_pos this (by omega)
  omega⟩
 have HL := Hd.mk h
 have HM := Hd.mk h'
 have HU := Hd.mk hu
 have HU' := Hd.mk hu'
 have HLE := Hd.mk hle
 clear hm hm' h h' hu hu' hcm hN1 hyn hle
 go_enter Tryz.func233, Tryz.ntmps233
 go_wp2_with fail
 refine C1.out.mono ?_
 rintro e w' ⟨rfl, rfl⟩
 go_wp2_with fail
 refine C2.out.mono ?_
 rintro e w' ⟨rfl, rfl⟩
 clear C1 C2
 go_wp2_with fail
 refine C3.out.mono ?_
 rintro e w' ⟨rfl, ⟨nq, rfl⟩⟩
 clear C3
 go_wp2_with fail
 refine (lead0 y (w.drewN nq) hy1 hy0.2).mono ?_
 rintro e w' ⟨⟨s, hs, hs1, hs2, rfl⟩, rfl⟩
 clear hs1 hs2
 have CS := Hd.mk (limb_Shift_up A c s s rfl l (w.drewN nq) HL.out hn (by omega) HU.out hs)
 go_wp2_with fail
 refine CS.out.mono ?_
 rintro e w2 ⟨va, rfl, ho, hb⟩
 clear CS
 have ha9 : (limbs (val l * 2 ^ s)).length ≤ 9 := by
  rw [limbs_len]
  have h3 := val_lt HU.out
  have h4 : 18446744073709551616 ^ l.length ≤ 18446744073709551616 ^ 8 := Nat.pow_le_pow_right (by decide) hl8
  have h5 : 2 ^ s ≤ 2 ^ 63 := Nat.pow_le_pow_right (by decide) hs
  have h6 : val l * 2 ^ s ≤ val l * 2 ^ 63 := Nat.mul_le_mul_left _ h5
  omega
 have hb9 : (limbs (val m * 2 ^ s)).length ≤ 9 := by
  rw [limbs_len]
  have h3 := val_lt HU'.out
  have h4 : 18446744073709551616 ^ m.length ≤ 18446744073709551616 ^ 8 := Nat.pow_le_pow_right (by decide) hm8
  have h5 : 2 ^ s ≤ 2 ^ 63 := Nat.pow_le_pow_right (by decide) hs
  have h6 : val m * 2 ^ s ≤ val m * 2 ^ 63 := Nat.mul_le_mul_left _ h5
  omega
 obtain ⟨a2, ha2⟩ : ∃ a2, a2 = limbs (val l * 2 ^ s) := ⟨_, rfl⟩
 obtain ⟨b2, hb2⟩ : ∃ b2, b2 = limbs (val m * 2 ^ s) := ⟨_, rfl⟩
 have CB := fun W (hW : RdI W .u64 (some bd) m) => limb_Shift_up (some bd) d s s rfl m W hW hn' (by omega) HU'.out hs
 have DS := div_start a2 b2 ha2 hb2 hmp.out HLE.out
 have ua : Hd (U64 a2) := ⟨by rw [ha2]; exact limbs_u64 _⟩
 have ub : Hd (U64 b2) := ⟨by rw [hb2]; exact limbs_u64 _⟩
 rw [← ha2] at ho ha9
 rw [← hb2] at CB hb9
 obtain ⟨d1, d2, d3, d4, d5⟩ := DS
 have D3 := Hd.mk (And.intro d3 (And.intro d4 d5))
 have HO := Hd.mk ho
 have B2 : Hd (Below w.heap.size w w2) := ⟨(Dr.below ⟨nq, rfl⟩).trans hb⟩
 have hs2 := B2.out.size
 have CB2 := Hd.mk CB
 clear ho hb ha2 hb2 CB d3 d4 d5
 go_wp2_with (at_builtin; refine wpList_append_rd _ rfl _ _ 61 rfl w.heap.size 112 i0 (.int .u64 0) 1 8 Tryz.slU64 hi hz0 hz1 hz2 rfl (by decide) _ _ _ rfl (HO.out.al _) _ _ _ _ (ints .u64 [0, 0]) rfl (Rd.new_ w2 #[.int .u64 0, .int .u64 0] 112 2 1 rfl) (ints_one _ _) ?c1 ?c2 ?c3 ?_)
 case c1 => unfold maxLen; omega
 case c2 => omega
 case c3 => simp; omega
 intro v' w3 ho hg _
 have ho3 : OwnI w3 w.heap.size 112 .u64 v' (a2 ++ [0, 0]) := by unfold OwnI; rw [ints_app, List.length_append]; exact ho
 have B3 : Hd (Below w.heap.size w w3) := ⟨grown_below (HO.out.al _) hg (B2.out.alloc hs2 _) (by simp; omega)⟩
 obtain ⟨g, c3, rfl, hg1, hc3, hc3m, hW3⟩ := Wn.of_own ho3 (by simp)
 have HW3 := Hd.mk hW3
 clear ho hg ho3 hW3
 have CB3 := Hd.mk (CB2.out w3 (HM.out.up B3.out))
 have al : (a2 ++ [0, 0]).length = a2.length + 2 := by simp
 have hbs3 := B3.out.size
 rw [al] at hc3
 go_wp2_with fail
 refine CB3.out.mono ?_
 rintro e w4 ⟨vb, rfl, ho, hb⟩
 obtain ⟨gv, c4, rfl, hgv, hc4, hc4m, hW4⟩ := Wn.of_own ho d1
 have HW4 := Hd.mk hW4
 have B4 : Hd (Below w.heap.size w w4) := ⟨B3.out.trans (hb.mono hbs3)⟩
 have HW34 := Hd.mk (HW3.out.up hb)
 have hl3 := HW3.out.lt
 have hl4 := hW4.lt
 have hbs4 := B4.out.size
 clear ho hb hW4 CB3 CB2
 have hmk := fun W => mkU64 (a2.length + 2 - b2.length) ((a2.length : Int) + 2 - b2.length) (by omega) (by omega) W
 go_wp2_with fail
 clear hmk
 obtain ⟨K0, hK0⟩ : ∃ K0, a2.length + 2 - b2.length = K0 := ⟨_, rfl⟩
 have hK1 : K0 + b2.length = a2.length + 2 := by omega
 have D4 := Hd.mk (And.intro D3.out.1 (And.intro D3.out.2.1 D3.out.2.2))
 rw [hK0] at D4 ⊢
 have HQ0 := Hd.mk (Wn.new_ w4 K0)
 have B5 : Hd (Below w.heap.size w (w4.alloc (Obj.cells (zer K0) 112))) := ⟨B4.out.alloc hbs4 _⟩
 have HG5 := Hd.mk (HW34.out.al (Obj.cells (zer K0) 112))
 have HV5 := Hd.mk (HW4.out.al (Obj.cells (zer K0) 112))
 clear HW34 HW4 hK0
 have HI : Hd (val (a2 ++ [0, 0]) + 18446744073709551616 ^ K0 * (val ((List.replicate K0 0).drop K0) * val b2) = val l * 2 ^ s ∧ val ((a2 ++ [0, 0]).drop K0) < val b2) := ⟨by rw [List.drop_eq_nil_of_le (by simp)]; simp [val]; simpa using D4.out.1, D4.out.2.2⟩
 go_loopw [14] (fun v14 wr => ∃ (os qs : List Int) (k : Nat), v14 = .int .i64 ((k : Int) - 1) ∧ k ≤ K0 ∧ Hd (os.length = a2.length + 2) ∧ Hd (qs.length = K0) ∧ Hd (U64 os) ∧ Hd (U64 qs) ∧ Hd (Wn wr g c3 os) ∧ Hd (Wn wr gv c4 b2) ∧
  Hd (Wn wr w4.heap.size K0 qs) ∧ Hd (Below w.heap.size w wr) ∧ Hd (val (os.drop k) < val b2) ∧ Hd (val os + 18446744073709551616 ^ k * (val (qs.drop k) * val b2) = val l * 2 ^ s)) (fun v _ => (intOf v + 1).toNat)
 case atStart => exact ⟨a2 ++ [0, 0], List.replicate K0 0, K0, rfl, Nat.le_refl _, ⟨al⟩, ⟨by simp⟩, ⟨ua.out.app (U64.nil.cons (by omega) (by omega) |>.cons (by omega) (by omega))⟩, ⟨zeros_u64 _⟩, HG5, HV5, HQ0, B5, ⟨HI.out.2⟩, ⟨HI.out.1⟩⟩
 case round =>
  clear HG5 HV5 HQ0 B5 HI
  obtain ⟨os, qs, k, rfl, hk, hol, hql, hou, hqu, hG, hV, hQ, hbel, hdr, hinv⟩ := hrel
  cases k with
  | zero =>
    have CT := Hd.mk (limb_Trim (some ⟨w4.heap.size, 0, none⟩) K0 qs wr hQ.out.rd (by rw [hql.out]; exact Nat.le_refl _) (by rw [hql.out]; omega))
    rw [hql.out] at CT
    have hend := Hd.mk (div_end (a := val l) (m := val m) (A := val l * 2 ^ s) (os := val os) (qs := val qs) (s := s) rfl (by have := hdr.out; rw [D3.out.2.1, List.drop_zero] at this; exact this) (by have := hinv.out; rw [D3.out.2.1, List.drop_zero, Nat.pow_zero, Nat.one_mul] at this; exact this))
    go_wp2_with fail
    refine CT.out.mono ?_
    rintro e w6 ⟨vq, rfl, ho, hb⟩
    have HO6 := Hd.mk ho
    have HB6 := Hd.mk hb
    have hG6 := Hd.mk (hG.out.up hb)
    have hbw := hbel.out.size
    clear ho hb CT
    rcases Nat.eq_zero_or_pos s with hs0 | hs0
    ·subst hs0
     have CU := Hd.mk (limb_Shift_up (some ⟨g, 0, none⟩) c3 0 0 rfl os w6 hG6.out.rd (by rw [hol.out]; exact hc3) (by rw [hol.out]; omega) hou.out (by omega))
     rw [hol.out] at CU
     go_wp2_with fail
     refine CU.out.mono ?_
     rintro e w7 ⟨vr, rfl, ho, hb⟩
     have HO7 := Hd.mk ho
     have HB7 := Hd.mk hb
     clear ho hb
     go_wp2_with fail
     go_ret3
     refine ⟨_, _, rfl, ?_, ?_, (hbel.out.trans (HB6.out.mono hbw)).trans (HB7.out.mono (Nat.le_trans hbw HB6.out.size))⟩
     ·rw [← hend.out.1, ← trim_limbs hqu.out]
      exact (HO6.out.below HB7.out).low hbw
     ·have h5 := HO7.out
      have h6 := hend.out.2
      rw [Nat.pow_zero, Nat.div_one] at h6
      rw [Nat.pow_zero, Nat.mul_one, h6] at h5
      exact h5.low (Nat.le_trans hbw HB6.out.size)
    ·have CU := Hd.mk (limb_Shift_down (some ⟨g, 0, none⟩) c3 s (-(s : Int)) rfl os w6 hG6.out.rd (by rw [hol.out]; exact hc3) (by rw [hol.out]; omega) hou.out hs0 hs)
     rw [hol.out] at CU
     go_wp2_with fail
     refine CU.out.mono ?_
     rintro e w7 ⟨vr, rfl, ho, hb⟩
     have HO7 := Hd.mk ho
     have HB7 := Hd.mk hb
     clear ho hb
     go_wp2_with fail
     go_ret3
     refine ⟨_, _, rfl, ?_, ?_, (hbel.out.trans (HB6.out.mono hbw)).trans (HB7.out.mono (Nat.le_trans hbw HB6.out.size))⟩
     ·rw [← hend.out.1, ← trim_limbs hqu.out]
      exact (HO6.out.below HB7.out).low hbw
     ·have h5 := HO7.out
      rw [hend.out.2] at h5
      exact h5.low (Nat.le_trans hbw HB6.out.size)
  | succ i =>
    have e9 : ((i + 1 : Nat) : Int) - 1 = i := by omega
    simp only [e9]
    have hmn : min ((i : Int) + b2.length + 1) ((a2.length : Int) + 2) = i + b2.length + 1 := by omega
    have W := div_win (os := os) (n := b2.length) (i := i) hou.out (by rw [hol.out]; omega) (val_lt ub.out) hdr.out
    have HWN := Hd.mk W
    clear W
    obtain ⟨cur, hk1, hk2, hk3, hk4⟩ := hG.out
    have hUl : ((os.drop i).take (b2.length + 1)).length = b2.length + 1 := by rw [List.length_take, List.length_drop, hol.out]; omega
    have hol2 := hol.out
    have CD := Hd.mk (quot_digit_k g i (c3 - i) c4 (i + b2.length + 1 - i) (some ⟨gv, 0, none⟩) cur ((os.drop i).take (b2.length + 1)) b2 wr (by rw [hUl]; omega) hk1 (by rw [hUl]; exact win_ints hk4 (by omega)) (by rw [hUl]; omega)
     hV.out.rd hc4 ((hou.out.drop i).take _) ub.out (by rw [hUl]; omega) d1 hUl HWN.out.2.2)
    have HK := Hd.mk (And.intro hk1 (And.intro hk2 (And.intro hk3 hk4)))
    have HUL := Hd.mk hUl
    clear hk1 hk2 hk3 hk4 hUl hol2
    go_wp2_with fail
    refine CD.out.mono ?_
    rintro e w6 ⟨rfl, hg6, R, hR1, hR2, hR3, hR4⟩
    rw [HUL.out] at hR2
    obtain ⟨D, hD⟩ : ∃ D, val ((os.drop i).take (b2.length + 1)) / val b2 = D := ⟨_, rfl⟩
    have DD := Hd.mk (div_done (n := b2.length) (i := i) (V := val b2) (A := val l * 2 ^ s) (by rw [hol.out]; omega) (by rw [hql.out]; omega) hR2 HWN.out.1 HWN.out.2.1 hD.symm hR4 (by have := hdr.out; omega) hinv.out)
    have hDl : Hd (D < 18446744073709551616) := ⟨by rw [← hD]; exact Nat.div_lt_of_lt_mul (by rw [Nat.mul_comm]; exact HWN.out.2.2)⟩
    rw [hD]
    have HG6 := Hd.mk (Wn.splice (l := os) (i := i) HK.out.2.1 HK.out.2.2.1 HK.out.2.2.2 (by rw [hR2, hol.out]; omega) hR1)
    have ne1 : w4.heap.size ≠ g := by omega
    have ne2 : gv ≠ g := by omega
    have ne3 : gv ≠ w4.heap.size := by omega
    have HQ6 := Hd.mk (hQ.out.grown hg6 (fun e => ne1 (by injection e)))
    have HV6 := Hd.mk (hV.out.grown hg6 (fun e => ne2 (by injection e)))
    have HB6 : Hd (Below w.heap.size w w6) := ⟨hbel.out.grown hg6 hbel.out.size (by intro k hk; injection hk with hk; omega)⟩
    have HR3 := Hd.mk hR3
    have HR2 := Hd.mk hR2
    obtain ⟨lq, fq⟩ := HQ6.out.cell (i := i) (by rw [hql.out]; omega)
    clear hg6 hR1 hR2 hR3 hR4 hD
    go_wp2_with fail
    go_roundw
    case measure => first | (simp [intOf]; done) | (simp [intOf]; omega)
    case rel =>
     exact ⟨splice os i R, qs.set i D, i, rfl, by omega, ⟨by rw [length_splice _ _ _ (by rw [HR2.out, hol.out]; omega)]; exact hol.out⟩, ⟨by rw [List.length_set]; exact hql.out⟩, ⟨hou.out.splice HR3.out i⟩, ⟨hqu.out.set i (by omega) (by have := hDl.out; omega)⟩,
      ⟨HG6.out.far ne1.symm _⟩, ⟨HV6.out.far ne3 _⟩, ⟨HQ6.out.set (by rw [hql.out]; omega) _⟩, ⟨HB6.out.setCell hbs4 _⟩, ⟨DD.out.1⟩, ⟨DD.out.2⟩⟩
theorem quot_Div (A B : Option Addr) (c d : Nat) (l m : List Int) (w : World) (h : RdI w .u64 A l) (hn : l.length ≤ c) (h' : RdI w .u64 B m) (hn' : m.length ≤ d) (hu : U64 l) (hu' : U64 m)
    (hm : natMay l = true) (hm' : natMay m = true) (h1 : 0 < m.length) :
    Calls Tryz.prog 233 #[.slice A l.length c, .slice B m.length d] w fun e w' => ∃ v u, e = .returned (.tuple #[v, u, .int .i64 0]) ∧ OwnI w' w.heap.size 112 .u64 v (limbs (val l / val m)) ∧
     OwnI w' w.heap.size 112 .u64 u (limbs (val l % val m)) ∧ Below w.heap.size w w' := by
 rcases Nat.lt_or_ge m.length 2 with h2 | h2
 ·exact quot_Div_one A B c d l m w h hn h' hn' hu hu' hm hm' (by omega)
 ·rcases Nat.lt_or_ge (val l) (val m) with h3 | h3
  ·exact quot_Div_lt A B c d l m w h hn h' hn' hu hu' hm hm' h2 h3
  ·exact quot_Div_main A B c d l m w h hn h' hn' hu hu' hm hm' h2 h3
theorem natMay_trimL {l : List Int} (h : natMay l = true) : trimL l = l := trimL_trim (natMay_trim h)
theorem natMay_pos {l : List Int} (h : natMay l = true) (hu : U64 l) (hl : 0 < l.length) : 0 < val l := by
 rcases Nat.eq_zero_or_pos (val l) with h0 | h0
 ·have := natMay_limbs h hu
  rw [h0, limbs_zero] at this
  rw [← this] at hl
  cases hl
 ·exact h0
theorem quot_Gcd_bad (A B : Option Addr) (c d : Nat) (l m : List Int) (w : World) (h : RdI w .u64 A l) (hn : l.length ≤ c) (h' : RdI w .u64 B m) (hn' : m.length ≤ d) (h9 : l.length ≤ 1000000000) (h9' : m.length ≤ 1000000000)
    (hm : (natMay l && natMay m) = false) :
    Calls Tryz.prog 225 #[.slice A l.length c, .slice B m.length d] w fun e w' => e = .returned (.tuple #[.slice none 0 0, .int .i64 1]) ∧ w = w' := by
 have C1 := Hd.mk (nat_May A c l w h hn h9)
 have C2 := Hd.mk (nat_May B d m w h' hn' h9')
 clear h h'
 cases hb : natMay l
 ·rw [hb] at C1
  clear hm hb
  go_enter Tryz.func225, Tryz.ntmps225
  go_wp2_with fail
  refine C1.out.mono ?_
  rintro e w' ⟨rfl, rfl⟩
  go_wp2_with fail
  go_ret2
  exact ⟨rfl, rfl⟩
 ·rw [hb] at C1 hm
  rw [Bool.true_and] at hm
  rw [hm] at C2
  clear hm hb
  go_enter Tryz.func225, Tryz.ntmps225
  go_wp2_with fail
  refine C1.out.mono ?_
  rintro e w' ⟨rfl, rfl⟩
  go_wp2_with fail
  refine C2.out.mono ?_
  rintro e w' ⟨rfl, rfl⟩
  go_wp2_with fail
  go_ret2
  exact ⟨rfl, rfl⟩
theorem quot_Gcd (A B : Option Addr) (c d : Nat) (l m : List Int) (w : World) (h : RdI w .u64 A l) (hn : l.length ≤ c) (h' : RdI w .u64 B m) (hn' : m.length ≤ d) (hu : U64 l) (hu' : U64 m)
    (hm : natMay l = true) (hm' : natMay m = true) :
    Calls Tryz.prog 225 #[.slice A l.length c, .slice B m.length d] w fun e w' => ∃ v, e = .returned (.tuple #[v, .int .i64 0]) ∧ OwnI w' w.heap.size 112 .u64 v (limbs (Nat.gcd (val l) (val m))) ∧ Below w.heap.size w w' := by
 have hl8 := natMay_len hm
 have hm8 := natMay_len hm'
 have C1 := Hd.mk (nat_May A c l w h hn (by omega))
 have C2 := Hd.mk (nat_May B d m w h' hn' (by omega))
 rw [hm] at C1
 rw [hm'] at C2
 have C3 := Hd.mk (limb_Trim A c l w h hn (by omega))
 have C4 := Hd.mk (fun W h => limb_Trim B d m W h hn' (by omega))
 rw [natMay_trimL hm] at C3
 rw [natMay_trimL hm'] at C4
 have HM := Hd.mk h'
 have HU := Hd.mk (And.intro hu (And.intro hu' (And.intro hm hm')))
 clear h h' hu hu' hm hm'
 go_enter Tryz.func225, Tryz.ntmps225
 go_wp2_with fail
 refine C1.out.mono ?_
 rintro e w' ⟨rfl, rfl⟩
 go_wp2_with fail
 refine C2.out.mono ?_
 rintro e w' ⟨rfl, rfl⟩
 go_wp2_with fail
 refine C3.out.mono ?_
 rintro e w1 ⟨v1, rfl, ho1, hb1⟩
 have HO1 := Hd.mk ho1
 have HB1 := Hd.mk hb1
 have C5 := Hd.mk (C4.out w1 (HM.out.up hb1))
 clear ho1 hb1 C1 C2 C3 C4
 go_wp2_with fail
 refine C5.out.mono ?_
 rintro e w2 ⟨v2, rfl, ho2, hb2⟩
 obtain ⟨A1, c1, rfl, hc1, _, _⟩ := HO1.out.reads
 obtain ⟨A2, c2, rfl, hc2, _, _⟩ := ho2.reads
 have HO1' := Hd.mk (HO1.out.below hb2)
 have HO2 := Hd.mk (ho2.low HB1.out.size)
 have HB2 : Hd (Below w.heap.size w w2) := ⟨HB1.out.trans (hb2.mono HB1.out.size)⟩
 clear ho2 hb2 C5
 go_wp2_with fail
 go_loopg [0, 1] (val m) (fun k v0 v1 wr => ∃ (x y : List Int) (A1 A2 : Option Addr) (c1 c2 : Nat), v0 = .slice A1 x.length c1 ∧ v1 = .slice A2 y.length c2 ∧ x.length ≤ c1 ∧ y.length ≤ c2 ∧ Hd (k = val y) ∧ Hd (OwnI wr w.heap.size 112 .u64 (.slice A1 x.length c1) x) ∧
  Hd (OwnI wr w.heap.size 112 .u64 (.slice A2 y.length c2) y) ∧ Hd (Below w.heap.size w wr) ∧ Hd (U64 x ∧ U64 y ∧ natMay x = true ∧ natMay y = true) ∧ Hd (Nat.gcd (val x) (val y) = Nat.gcd (val l) (val m)))
 case atStart => exact ⟨l, m, A1, A2, c1, c2, rfl, rfl, hc1, hc2, ⟨rfl⟩, HO1', HO2, HB2, HU, ⟨rfl⟩⟩
 case round =>
  clear HO1' HO2 HB2 HO1 HB1 HM HU hc1 hc2
  obtain ⟨x, y, A1, A2, c1, c2, rfl, rfl, hc1, hc2, hk, ho1, ho2, hb, hu, hg⟩ := hrel
  by_cases hy : 0 < y.length
  ·have hy' : (0 : Int) < y.length := by omega
   obtain ⟨_, _, hv, _, _, r1⟩ := ho1.out.reads
   injection hv with hv1 hv2 hv3
   subst hv1 hv3
   obtain ⟨_, _, hv, _, _, r2⟩ := ho2.out.reads
   injection hv with hv1 hv2 hv3
   subst hv1 hv3
   clear hv2
   have CD := Hd.mk (quot_Div A1 A2 c1 c2 x y wr r1 hc1 r2 hc2 hu.out.1 hu.out.2.1 hu.out.2.2.1 hu.out.2.2.2 hy)
   have hpos : Hd (0 < val y) := ⟨natMay_pos hu.out.2.2.2 hu.out.2.1 hy⟩
   clear r1 r2
   go_wp2_with fail
   refine CD.out.mono ?_
   rintro e w3 ⟨q, r, rfl, _, hor, hb3⟩
   obtain ⟨A3, c3, rfl, hc3, _, _⟩ := hor.reads
   have HOR := Hd.mk (hor.low hb.out.size)
   have HB3 := Hd.mk hb3
   have hlt : Hd (val x % val y < val y) := ⟨Nat.mod_lt _ hpos.out⟩
   have hz : Hd (natMay (limbs (val x % val y)) = true ∧ val (limbs (val x % val y)) = val x % val y) := ⟨limbs_may (by
    rw [limbs_len]
    have h1 := val_lt hu.out.2.1
    have h2 := natMay_len hu.out.2.2.2
    have h3 : 18446744073709551616 ^ y.length ≤ 18446744073709551616 ^ 8 := Nat.pow_le_pow_right (by decide) h2
    have := hlt.out
    omega), val_limbs _⟩
   clear hor hb3
   go_wp2_with fail
   go_roundg (val x % val y)
   case measure => rw [hk.out]; exact hlt.out
   case rel =>
    refine ⟨y, limbs (val x % val y), A2, A3, c2, c3, rfl, rfl, hc2, hc3, ⟨hz.out.2.symm⟩, ⟨ho2.out.below HB3.out⟩, HOR, ⟨hb.out.trans (HB3.out.mono hb.out.size)⟩, ⟨hu.out.2.1, limbs_u64 _, hu.out.2.2.2, hz.out.1⟩, ⟨?_⟩⟩
    rw [hz.out.2, ← hg.out, Nat.gcd_comm (val y), ← Nat.gcd_rec, Nat.gcd_comm]
  ·have hy0 : y.length = 0 := by omega
   have hyn := List.eq_nil_of_length_eq_zero hy0
   subst hyn
   clear hy hy0
   go_wp2_with fail
   go_ret2
   refine ⟨_, rfl, ?_, hb.out⟩
   have h1 := hg.out
   rw [show val [] = 0 from rfl, Nat.gcd_zero_right] at h1
   rw [← h1, natMay_limbs hu.out.2.2.1 hu.out.1]
   exact ho1.out
end Go.Proofs.YtgjkgkgieeoalaaGreat
