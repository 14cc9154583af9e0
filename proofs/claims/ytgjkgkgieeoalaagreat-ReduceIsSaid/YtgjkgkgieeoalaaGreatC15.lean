/- Parts of the proof, joined: each theorem says what it shows. -/
import Derived.Test.YtgjkgkgieeoalaaGreatC14
import Derived.Test.YtgjkgkgieeoalaaGreatC13
set_option linter.unusedVariables false
set_option linter.unusedSimpArgs false
set_option maxHeartbeats 24000000
set_option maxRecDepth 100000
namespace Go.Proofs.YtgjkgkgieeoalaaGreat
open Go.RowKit
theorem clone_nat (A : Option Addr) (c : Nat) (l : List Int) (w : World) (h : RdI w .u64 A l) (hn : l.length ≤ c) (hb9 : l.length ≤ 2000000000) :
    Calls Tryz.prog 170 #[.slice A l.length c] w fun e w' => ∃ v, e = .returned v ∧ OwnI w' w.heap.size 112 .u64 v l ∧ Below w.heap.size w w' := by
 obtain ⟨i0, hi, hz0, hz1, hz2⟩ := info_split Tryz.infU64
 have hnil := fun (w : World) => Lib.run_eql_slice_nil (P := Tryz.prog) w 62 _ A l.length c 0 0 Tryz.slNat
 have h0 : l.length + 0 ≤ maxLen := by unfold maxLen; omega
 have H := Hd.mk h
 clear h
 cases A with
 | none =>
   have hl : l = [] := by
    cases l with
    | nil => rfl
    | cons x l => obtain ⟨ad, h, _⟩ := H.out.at_ (i := 0) (by simp); cases h
   subst hl
   clear hb9 h0 hn H hnil
   have hnil := fun (w : World) => Lib.run_eql_slice_nil (P := Tryz.prog) w 62 _ none 0 c 0 0 Tryz.slNat
   go_enter Tryz.func170, Tryz.ntmps170
   go_wp2
   go_ret
   exact ⟨_, rfl, OwnI.nil _ _ _ _, Below.refl _ _⟩
 | some ad =>
   have hown : (w.alloc (.cells #[] 112)).ownsRow w.heap.size 112 1 (.slice (some ⟨w.heap.size, 0, none⟩) 0 0) 0 [] :=
    World.ownsRow_lit w #[] 0 (Nat.le_refl _) (by unfold maxLen; omega) rfl
   have HO := Hd.mk hown
   clear hown
   go_enter Tryz.func170, Tryz.ntmps170
   go_wp2_with (at_builtin; refine wpList_append_rd _ rfl _ _ 62 rfl w.heap.size 112 i0 (.int .u64 0) 1 8 Tryz.slNat hi hz0 hz1 hz2 rfl (by decide) _ _ _ rfl HO.out _ _ _ _ (ints .u64 l) rfl (Rd.up H.out ((Below.refl _ _).alloc (Nat.le_refl _) _)) (ints_one _ _) ?c1 ?c2 ?c3 ?_)
   case c1 => unfold maxLen; omega
   case c2 => omega
   case c3 => simp
   intro v' w' ho hg _
   go_wp2
   go_ret
   have ho2 : OwnI w' w.heap.size 112 .u64 v' l := by simpa [OwnI] using ho
   exact ⟨_, rfl, ho2, grown_below HO.out hg ((Below.refl _ _).alloc (Nat.le_refl _) _) (by simp)⟩
theorem big_1 (A : Option Addr) (n c : Nat) (w : World) :
    Calls Tryz.prog 232 #[.slice A n c] w fun e w' => e = .returned (.bool (decide (8 < n))) ∧ w = w' := by
 by_cases h : 8 < n
 ·have hd : decide ((8 : Int) < n) = true := decide_eq_true (by omega)
  have hd2 : decide (8 < n) = true := decide_eq_true h
  go_enter Tryz.func232, Tryz.ntmps232
  go_wp2_with fail
  go_ret
  simp
  omega
 ·have hd : decide ((8 : Int) < n) = false := decide_eq_false (by omega)
  have hd2 : decide (8 < n) = false := decide_eq_false h
  go_enter Tryz.func232, Tryz.ntmps232
  go_wp2_with fail
  go_ret
  simp
  omega
def isBig (rs : List (List Int)) : Bool := rs.any fun r => decide (8 < r.length)
theorem index_big (A : Option Addr) (c : Nat) (rs : List (List Int)) (w : World) (h : RdRows w A rs) (hn : rs.length ≤ c) (h6 : rs.length ≤ 100000000) :
    Calls Tryz.prog 275 #[.slice A rs.length c, .func (.func 232) #[] #[]] w fun e w' => ∃ i : Int, e = .returned (.int .i64 i) ∧ decide (0 ≤ i) = isBig rs ∧ w = w' := by
 have H := Hd.mk h
 clear h
 go_enter Tryz.func275, Tryz.ntmps275
 go_wp2_with fail
 go_loop [8] (fun v => ∃ i : Nat, v = .int .i64 i ∧ i ≤ rs.length ∧ Hd (isBig (rs.take i) = false)) (fun v => rs.length - (intOf v).toNat)
 case atStart => exact ⟨0, rfl, by omega, ⟨rfl⟩⟩
 case round =>
  obtain ⟨i, rfl, hi, ht⟩ := hrel
  by_cases hlt : i < rs.length
  ·obtain ⟨ad, a, r, c2, rfl, _, hcell, hr, hc2, _⟩ := H.out.get hlt
   have i2 : (i : Int) < rs.length := by omega
   have hsn : Hd (isBig (rs.take (i + 1)) = (isBig (rs.take i) || decide (8 < r.length))) := ⟨by
    have := hr.out
    rw [List.getElem?_eq_getElem hlt] at this
    injection this with this
    rw [List.take_add_one, List.getElem?_eq_getElem hlt, this, isBig, List.any_append]; simp [isBig]⟩
   have CB := Hd.mk (big_1 a r.length c2 w)
   by_cases h8 : 8 < r.length
   ·rw [decide_eq_true h8] at CB hsn
    clear h8
    go_wp2_with fail
    refine CB.out.mono ?_
    rintro e w' ⟨rfl, rfl⟩
    go_wp2_with fail
    go_ret
    refine ⟨_, rfl, ?_, rfl⟩
    have h1 := hsn.out
    rw [Bool.or_true] at h1
    rw [decide_eq_true (by omega : (0 : Int) ≤ i)]
    have h2 : isBig rs = (isBig (rs.take (i + 1)) || isBig (rs.drop (i + 1))) := by
     conv => lhs; rw [← List.take_append_drop (i + 1) rs]
     rw [isBig, List.any_append]; rfl
    rw [h2, h1]; rfl
   ·rw [decide_eq_false h8] at CB hsn
    clear h8
    go_wp2_with fail
    refine CB.out.mono ?_
    rintro e w' ⟨rfl, rfl⟩
    go_wp2_with fail
    go_round
    case measure => first | (simp [intOf]; done) | (simp [intOf]; omega)
    case rel => exact ⟨i + 1, by go_num, by omega, ⟨by rw [hsn.out, ht.out]; rfl⟩⟩
  ·have hie : i = rs.length := by omega
   subst hie
   go_wp2_with fail
   go_ret
   refine ⟨_, rfl, ?_, rfl⟩
   have := ht.out
   rw [List.take_length] at this
   rw [this]; rfl
theorem ratio_big (A : Option Addr) (c : Nat) (rs : List (List Int)) (w : World) (h : RdRows w A rs) (hn : rs.length ≤ c) (h6 : rs.length ≤ 100000000) :
    Calls Tryz.prog 172 #[.slice A rs.length c] w fun e w' => e = .returned (.bool (isBig rs)) ∧ w = w' := by
 have hi := Hd.mk (index_big A c rs w h hn h6)
 have hc : Calls Tryz.prog 231 #[.slice A rs.length c, .func (.func 232) #[] #[]] w fun e w' => e = .returned (.bool (isBig rs)) ∧ w = w' := by
  clear h
  go_enter Tryz.func231, Tryz.ntmps231
  go_wp2_with fail
  refine hi.out.mono ?_
  rintro e w' ⟨i, rfl, hib, rfl⟩
  have HIB := Hd.mk hib
  clear hib
  go_wp2_with fail
  go_ret
  exact ⟨retBool HIB.out, rfl⟩
 have HC := Hd.mk hc
 clear h hc
 go_enter Tryz.func172, Tryz.ntmps172
 go_wp2_with fail
 refine HC.out.mono ?_
 rintro e w' ⟨rfl, rfl⟩
 go_wp2_with fail
 go_ret
 exact ⟨rfl, rfl⟩
def RRow (w : World) (b0 : Nat) (A : Option Addr) (l : List Int) : Prop :=
 RdI w .u64 A l ∧ U64 l ∧ (0 < l.length → ∀ ad, A = some ad → ad.block < b0 ∨ ∃ cs, Bk w ad.block 112 cs)
section
variable {w w' : World} {b0 b1 : Nat} {A : Option Addr} {l : List Int}
theorem RRow.rd (h : RRow w b0 A l) : RdI w .u64 A l := h.1
theorem RRow.u (h : RRow w b0 A l) : U64 l := h.2.1
theorem RRow.up (h : RRow w b0 A l) (hb : Below w.heap.size w w') : RRow w' b0 A l :=
 ⟨h.1.up hb, h.2.1, fun h0 ad e => (h.2.2 h0 ad e).imp id fun ⟨cs, hk⟩ => ⟨cs, hk.up hb⟩⟩
theorem RRow.more (h : RRow w b0 A l) (hb : b0 ≤ b1) : RRow w b1 A l := ⟨h.1, h.2.1, fun h0 ad e => (h.2.2 h0 ad e).imp (fun h => Nat.lt_of_lt_of_le h hb) id⟩
theorem RRow.old (h : RdI w .u64 A l) (hu : U64 l) (hb : w.heap.size ≤ b0) : RRow w b0 A l := ⟨h, hu, fun h0 ad e => by
 obtain ⟨ad', e', hb', _⟩ := h.2 h0
 rw [e] at e'; injection e' with e'; subst e'
 exact .inl (by omega)⟩
theorem RRow.nil (w : World) (b0 : Nat) (A : Option Addr) : RRow w b0 A [] := ⟨RdI.nil _ _ _, U64.nil, fun h => by cases h⟩
theorem RRow.of_own {base : Nat} {n c : Nat} (h : OwnI w base 112 .u64 (.slice A n c) l) (hu : U64 l) (b0 : Nat) : RRow w b0 A l ∧ n = l.length ∧ l.length ≤ c := by
 obtain ⟨A', c', hv, hc, _, hr⟩ := h.reads
 injection hv with hv1 hv2 hv3
 subst hv1 hv2 hv3
 refine ⟨⟨hr, hu, fun h0 ad e => ?_⟩, rfl, hc⟩
 subst e
 obtain ⟨g, c2, hv, _, _, _, hw⟩ := Wn.of_own h h0
 injection hv with hv1
 injection hv1 with hv1
 subst hv1
 obtain ⟨cur, hk, _⟩ := hw
 exact .inr ⟨_, hk⟩
theorem RRow.grown {row : Option Nat} (h : RRow w b0 A l) (hg : w.grownBy w' row) (hr : ∀ g, row = some g → b0 ≤ g ∧ ∃ t cs, Bk w g t cs ∧ t ≠ 112) : RRow w' b0 A l := by
 have key : 0 < l.length → ∀ ad, A = some ad → some ad.block ≠ row := fun h0 ad e er => by
  obtain ⟨h1, t, cs, h2, h3⟩ := hr _ er.symm
  rcases h.2.2 h0 ad e with h4 | ⟨cs', h4⟩
  ·omega
  ·exact Bk.ne_ h4 h2 (Ne.symm h3) rfl
 refine ⟨?_, h.2.1, fun h0 ad e => (h.2.2 h0 ad e).imp id fun ⟨cs, hk⟩ => ⟨cs, hk.grown hg (key h0 ad e)⟩⟩
 refine ⟨h.1.1, fun h0 => ?_⟩
 obtain ⟨ad, e, hb, hc⟩ := h.1.2 h0
 refine ⟨ad, e, Nat.lt_of_lt_of_le hb hg.size, fun j u hu => ?_⟩
 rw [← hc j u hu]
 exact World.cell?_of_block (hg.block _ (by rw [add_block]; exact hb) (by rw [add_block]; exact key h0 ad e))
theorem RRow.set {g : Nat} {t : TypeId} {cs : Array Value} (h : RRow w b0 A l) (hk : Bk w g t cs) (ht : t ≠ 112) (hg : b0 ≤ g) {p : Addr} (hp : p.block = g) (u : Value) : RRow (w.setCell p u) b0 A l := by
 subst hp
 exact h.grown (set_grown w p u) (fun g' e => by injection e with e; subst e; exact ⟨hg, t, cs, hk, ht⟩)
theorem RRow.dn (h : RRow w b0 A l) (n : Nat) : RRow (w.drewN n) b0 A l := h
end
structure RatD where
 neg : Bool
 num : List Int
 den : List Int
def zeroD : RatD := ⟨false, [], []⟩
def RRat (w : World) (b0 : Nat) (v : Value) (r : RatD) : Prop :=
 ∃ A c B d, v = .agg #[.bool r.neg, .slice A r.num.length c, .slice B r.den.length d] ∧ r.num.length ≤ c ∧ r.den.length ≤ d ∧ RRow w b0 A r.num ∧ RRow w b0 B r.den
section
variable {w w' : World} {b0 b1 : Nat} {v : Value} {r : RatD}
theorem RRat.up (h : RRat w b0 v r) (hb : Below w.heap.size w w') : RRat w' b0 v r := let ⟨A, c, B, d, e, h1, h2, h3, h4⟩ := h; ⟨A, c, B, d, e, h1, h2, h3.up hb, h4.up hb⟩
theorem RRat.more (h : RRat w b0 v r) (hb : b0 ≤ b1) : RRat w b1 v r := let ⟨A, c, B, d, e, h1, h2, h3, h4⟩ := h; ⟨A, c, B, d, e, h1, h2, h3.more hb, h4.more hb⟩
theorem RRat.grown {row : Option Nat} (h : RRat w b0 v r) (hg : w.grownBy w' row) (hr : ∀ g, row = some g → b0 ≤ g ∧ ∃ t cs, Bk w g t cs ∧ t ≠ 112) : RRat w' b0 v r :=
 let ⟨A, c, B, d, e, h1, h2, h3, h4⟩ := h; ⟨A, c, B, d, e, h1, h2, h3.grown hg hr, h4.grown hg hr⟩
theorem RRat.zero (w : World) (b0 : Nat) : RRat w b0 (.agg #[.bool false, .slice none 0 0, .slice none 0 0]) zeroD := ⟨_, _, _, _, rfl, Nat.le_refl _, Nat.le_refl _, RRow.nil _ _ _, RRow.nil _ _ _⟩
end
def RatD.short (r : RatD) : Prop := r.num.length ≤ 1000000 ∧ r.den.length ≤ 1000000
theorem ratio_Zero (b0 : Nat) (v : Value) (r : RatD) (w : World) (h : RRat w b0 v r) :
    Calls Tryz.prog 165 #[v] w fun e w' => e = .returned (.bool (decide (r.num.length = 0))) ∧ Below w.heap.size w w' := by
 obtain ⟨A, c, B, d, rfl, _, _, _, _⟩ := h
 by_cases h0 : r.num.length = 0
 ·have e1 : ((r.num.length : Int) == 0) = true := by rw [beq_iff_eq]; omega
  have HD : Hd (decide (r.num.length = 0) = true) := ⟨decide_eq_true h0⟩
  clear h0
  go_enter Tryz.func165, Tryz.ntmps165
  go_wp2_with fail
  go_ret
  exact ⟨retBool HD.out.symm, (Below.refl _ _).alloc (Nat.le_refl _) _⟩
 ·have e1 : ((r.num.length : Int) == 0) = false := by rw [beq_eq_false_iff_ne]; omega
  have HD : Hd (decide (r.num.length = 0) = false) := ⟨decide_eq_false h0⟩
  clear h0
  go_enter Tryz.func165, Tryz.ntmps165
  go_wp2_with fail
  go_ret
  exact ⟨retBool HD.out.symm, (Below.refl _ _).alloc (Nat.le_refl _) _⟩
theorem ratio_crossed (b0 : Nat) (v u : Value) (r s : RatD) (w : World) (h : RRat w b0 v r) (h' : RRat w b0 u s) (hr : r.short) (hs : s.short) :
    Calls Tryz.prog 281 #[v, u] w fun e w' => ∃ x y, e = .returned (.tuple #[x, y]) ∧ OwnI w' w.heap.size 112 .u64 x (limbs (val r.num * val s.den)) ∧ OwnI w' w.heap.size 112 .u64 y (limbs (val s.num * val r.den)) ∧ Below w.heap.size w w' := by
 obtain ⟨A, c, B, d, rfl, h1, h2, h3, h4⟩ := h
 obtain ⟨A', c', B', d', rfl, h1', h2', h3', h4'⟩ := h'
 have C1 := Hd.mk (fun W (hb : Hd (Below w.heap.size w W)) => limb_Mul A B' c d' r.num s.den W (h3.rd.up hb.out) h1 (by have := hr.1; omega) (h4'.rd.up hb.out) h2' (by have := hs.2; omega) h3.u h4'.u)
 have C2 := Hd.mk (fun W (hb : Hd (Below w.heap.size w W)) => limb_Mul A' B c' d s.num r.den W (h3'.rd.up hb.out) h1' (by have := hs.1; omega) (h4.rd.up hb.out) h2 (by have := hr.2; omega) h3'.u h4.u)
 clear h3 h4 h3' h4'
 go_enter Tryz.func281, Tryz.ntmps281
 go_wp2_with fail
 obtain ⟨W, hW⟩ : ∃ W, W = ((w.alloc (Obj.cells #[.bool r.neg, .slice A r.num.length c, .slice B r.den.length d] 64)).alloc (Obj.cells #[.bool s.neg, .slice A' s.num.length c', .slice B' s.den.length d'] 64)) := ⟨_, rfl⟩
 rw [← hW]
 have k1 : Hd (Bk W w.heap.size 64 #[.bool r.neg, .slice A r.num.length c, .slice B r.den.length d]) := ⟨by rw [hW]; exact (Bk.new_ _ _ _).al _⟩
 have k2 : Hd (Bk W (w.heap.size + 1) 64 #[.bool s.neg, .slice A' s.num.length c', .slice B' s.den.length d']) := ⟨by
  rw [hW]
  have := Bk.new_ (w.alloc (Obj.cells #[.bool r.neg, .slice A r.num.length c, .slice B r.den.length d] 64)) 64 #[.bool s.neg, .slice A' s.num.length c', .slice B' s.den.length d']
  simpa using this⟩
 have hb0 : Hd (Below w.heap.size w W) := ⟨by rw [hW]; exact ((Below.refl _ _).alloc (Nat.le_refl _) _).alloc (by simp) _⟩
 clear hW
 have l1 : W.cell? ⟨w.heap.size, 1, none⟩ = some (.slice A r.num.length c) := by rw [k1.out.cell]; rfl
 have l2 : W.cell? ⟨w.heap.size, 2, none⟩ = some (.slice B r.den.length d) := by rw [k1.out.cell]; rfl
 have l3 : W.cell? ⟨w.heap.size + 1, 1, none⟩ = some (.slice A' s.num.length c') := by rw [k2.out.cell]; rfl
 have l4 : W.cell? ⟨w.heap.size + 1, 2, none⟩ = some (.slice B' s.den.length d') := by rw [k2.out.cell]; rfl
 go_region_held3 (fun w' => Hd (Below w.heap.size w w') ∧ w'.cell? ⟨w.heap.size, 1, none⟩ = some (.slice A r.num.length c) ∧ w'.cell? ⟨w.heap.size, 2, none⟩ = some (.slice B r.den.length d) ∧
     w'.cell? ⟨w.heap.size + 1, 1, none⟩ = some (.slice A' s.num.length c') ∧ w'.cell? ⟨w.heap.size + 1, 2, none⟩ = some (.slice B' s.den.length d'))
  (first
   | exact hS
   | exact ⟨hb0, l1, l2, l3, l4⟩
   | exact ⟨⟨hb0.out.drew⟩, l1, l2, l3, l4⟩)
  (first
   | (go_at_call 171; obtain ⟨hB, q1, q2, q3, q4⟩ := ‹Hd (Below w.heap.size w _) ∧ _›; with_reducible refine (C1.out _ hB).mono ?_; rintro e w' ⟨x, rfl, ho, hb⟩
      have hS := And.intro (Hd.mk (hB.out.trans (hb.mono hB.out.size))) (And.intro (cell_up q1 hb) (And.intro (cell_up q2 hb) (And.intro (cell_up q3 hb) (cell_up q4 hb))))
      have HX := Hd.mk (ho.low hB.out.size); clear ho)
   | (go_at_call 171; obtain ⟨hB, q1, q2, q3, q4⟩ := ‹Hd (Below w.heap.size w _) ∧ _›; with_reducible refine (C2.out _ hB).mono ?_; rintro e w2 ⟨y, rfl, ho, hb⟩
      have hS := And.intro (Hd.mk (hB.out.trans (hb.mono hB.out.size))) (And.intro (cell_up q1 hb) (And.intro (cell_up q2 hb) (And.intro (cell_up q3 hb) (cell_up q4 hb))))
      have HX2 := Hd.mk (HX.out.below hb)
      have HY := Hd.mk (ho.low hB.out.size)
      clear ho))
 go_wp2_with fail
 go_ret2
 exact ⟨_, _, rfl, HX2.out, HY.out, hS.1.out⟩
def ratMay (r : RatD) : Bool := natMay r.num && natMay r.den && decide (0 < r.den.length) && decide (Nat.gcd (val r.num) (val r.den) = 1) && (!r.neg || !decide (r.num.length = 0))
theorem ratMay_of {r : RatD} (h : ratMay r = true) : natMay r.num = true ∧ natMay r.den = true ∧ 0 < r.den.length ∧ Nat.gcd (val r.num) (val r.den) = 1 ∧ (r.neg = true → r.num.length ≠ 0) := by
 unfold ratMay at h
 simp only [Bool.and_eq_true, Bool.or_eq_true, decide_eq_true_eq, Bool.not_eq_true'] at h
 obtain ⟨⟨⟨⟨h1, h2⟩, h3⟩, h4⟩, h5⟩ := h
 refine ⟨h1, h2, h3, h4, fun hn => ?_⟩
 rcases h5 with h5 | h5
 ·rw [hn] at h5; cases h5
 ·exact of_decide_eq_false h5
theorem gcd_len {l m : List Int} (hl : U64 l) (hm : U64 m) (h1 : l.length ≤ 8) (h2 : m.length ≤ 8) : (limbs (Nat.gcd (val l) (val m))).length ≤ 8 := by
 rw [limbs_len]
 have e1 : val l < 18446744073709551616 ^ 8 := Nat.lt_of_lt_of_le (val_lt hl) (Nat.pow_le_pow_right (by decide) h1)
 have e2 : val m < 18446744073709551616 ^ 8 := Nat.lt_of_lt_of_le (val_lt hm) (Nat.pow_le_pow_right (by decide) h2)
 rcases Nat.eq_zero_or_pos (val m) with h0 | h0
 ·rw [h0, Nat.gcd_zero_right]; exact e1
 ·exact Nat.lt_of_le_of_lt (Nat.gcd_le_right _ h0) e2
theorem ratio_May (b0 : Nat) (v : Value) (r : RatD) (w : World) (h : RRat w b0 v r) (hs : r.short) :
    Calls Tryz.prog 169 #[v] w fun e w' => e = .returned (.bool (ratMay r)) ∧ Below w.heap.size w w' := by
 have HZ := Hd.mk (fun W hW => ratio_Zero b0 v r W hW)
 have HR := Hd.mk h
 obtain ⟨A, c, B, d, rfl, h1, h2, h3, h4⟩ := h
 obtain ⟨hs1, hs2⟩ := hs
 have hb1 : Hd (Below w.heap.size w (w.alloc (Obj.cells #[.bool r.neg, .slice A r.num.length c, .slice B r.den.length d] 64))) := ⟨(Below.refl _ _).alloc (Nat.le_refl _) _⟩
 have k1 := Hd.mk (Bk.new_ w 64 #[.bool r.neg, .slice A r.num.length c, .slice B r.den.length d])
 cases hm : (natMay r.num && natMay r.den)
 ·have CG := Hd.mk (quot_Gcd_bad A B c d r.num r.den _ (h3.rd.up hb1.out) h1 (h4.rd.up hb1.out) h2 (by omega) (by omega) hm)
  have HM : Hd (ratMay r = false) := ⟨by unfold ratMay; rw [hm]; rfl⟩
  clear hm h3 h4
  go_enter Tryz.func169, Tryz.ntmps169
  go_wp2_with fail
  refine CG.out.mono ?_
  rintro e w' ⟨rfl, rfl⟩
  go_wp2_with fail
  go_ret
  exact ⟨retBool HM.out.symm, hb1.out⟩
 ·rw [Bool.and_eq_true] at hm
  have CG := Hd.mk (quot_Gcd A B c d r.num r.den _ (h3.rd.up hb1.out) h1 (h4.rd.up hb1.out) h2 h3.u h4.u hm.1 hm.2)
  have HM := Hd.mk hm
  have HU := Hd.mk (And.intro h3.u h4.u)
  clear hm h3 h4
  go_enter Tryz.func169, Tryz.ntmps169
  go_wp2_with fail
  refine CG.out.mono ?_
  rintro e w2 ⟨g, rfl, ho, hb⟩
  obtain ⟨A3, c3, rfl, hc3, _, hr3⟩ := ho.reads
  have hb2 : Hd (Below w.heap.size w w2) := ⟨hb1.out.trans (hb.mono hb1.out.size)⟩
  have k2 := Hd.mk (k1.out.up hb)
  have l0 : w2.cell? ⟨w.heap.size, 0, none⟩ = some (.bool r.neg) := by rw [k2.out.cell]; rfl
  have l1 : w2.cell? ⟨w.heap.size, 1, none⟩ = some (.slice A r.num.length c) := by rw [k2.out.cell]; rfl
  have l2 : w2.cell? ⟨w.heap.size, 2, none⟩ = some (.slice B r.den.length d) := by rw [k2.out.cell]; rfl
  have HR3 := Hd.mk hr3
  have hgl : (limbs (Nat.gcd (val r.num) (val r.den))).length ≤ 8 := gcd_len HU.out.1 HU.out.2 (natMay_len HM.out.1) (natMay_len HM.out.2)
  clear ho hb hr3 k1 hb1 CG
  by_cases hd0 : 0 < r.den.length
  ·have e1 : (0 : Int) < r.den.length := by omega
   have hb3 : Hd (Below w2.heap.size w2 (w2.alloc (Obj.cells #[.int .u64 1] 112))) := ⟨(Below.refl _ _).alloc (Nat.le_refl _) _⟩
   have r1 : Hd (RdI (w2.alloc (.cells #[.int .u64 1] 112)) .u64 (some ⟨w2.heap.size, 0, none⟩) [1]) := ⟨by
    have := Rd.new_ w2 #[.int .u64 1] 112 1 1 rfl
    unfold RdI
    rw [show (w2.alloc (.cells #[.int .u64 1] 112)).heap.size = w2.heap.size + 1 by simp]
    exact this⟩
   have CC := Hd.mk (nat_Cmp A3 (some ⟨w2.heap.size, 0, none⟩) c3 1 (limbs (Nat.gcd (val r.num) (val r.den))) [1] _ (HR3.out.up hb3.out) hc3 (by omega) r1.out (Nat.le_refl _) (by simp) (limbs_u64 _) (U64.nil.cons (by omega) (by omega)))
   rw [val_limbs, show val [1] = 1 from rfl] at CC
   by_cases hg1 : Nat.gcd (val r.num) (val r.den) = 1
   ·rw [cmpN_eq hg1] at CC
    have HG := Hd.mk (And.intro hd0 hg1)
    clear hd0 hg1 r1 HR3 hgl
    by_cases hn : r.neg = true
    ·rw [hn] at l0
     have HNG := Hd.mk hn
     by_cases hz : r.num.length = 0
     ·have HM2 : Hd (ratMay r = false) := ⟨by unfold ratMay; rw [hn, decide_eq_true hz]; simp⟩
      rw [decide_eq_true hz] at HZ
      clear hz
      go_wp2_with fail
      refine CC.out.mono ?_
      rintro e w4 ⟨rfl, hd4⟩
      have hb4 : Hd (Below w2.heap.size w2 w4) := ⟨hb3.out.trans (hd4.below.mono hb3.out.size)⟩
      have k4 := Hd.mk (k2.out.up hb4.out)
      have m0 : w4.cell? ⟨w.heap.size, 0, none⟩ = some (.bool r.neg) := by rw [k4.out.cell]; rfl
      have m1 : w4.cell? ⟨w.heap.size, 1, none⟩ = some (.slice A r.num.length c) := by rw [k4.out.cell]; rfl
      have m2 : w4.cell? ⟨w.heap.size, 2, none⟩ = some (.slice B r.den.length d) := by rw [k4.out.cell]; rfl
      rw [HNG.out] at m0
      clear hd4
      have CZ := Hd.mk (HZ.out _ (HR.out.up (hb2.out.trans (hb4.out.mono hb2.out.size))))
      rw [hn] at CZ
      go_wp2_with fail
      refine CZ.out.mono ?_
      rintro e w5 ⟨rfl, hb5⟩
      have hb5' : Hd (Below w.heap.size w w5) := ⟨(hb2.out.trans (hb4.out.mono hb2.out.size)).trans (hb5.mono (Nat.le_trans hb2.out.size hb4.out.size))⟩
      clear hb5
      go_wp2_with fail
      go_ret
      exact ⟨retBool HM2.out.symm, hb5'.out⟩
     ·have HM2 : Hd (ratMay r = true) := ⟨by unfold ratMay; rw [decide_eq_false hz, HM.out.1, HM.out.2, decide_eq_true HG.out.1, decide_eq_true HG.out.2]; simp⟩
      rw [decide_eq_false hz] at HZ
      clear hz
      go_wp2_with fail
      refine CC.out.mono ?_
      rintro e w4 ⟨rfl, hd4⟩
      have hb4 : Hd (Below w2.heap.size w2 w4) := ⟨hb3.out.trans (hd4.below.mono hb3.out.size)⟩
      have k4 := Hd.mk (k2.out.up hb4.out)
      have m0 : w4.cell? ⟨w.heap.size, 0, none⟩ = some (.bool r.neg) := by rw [k4.out.cell]; rfl
      have m1 : w4.cell? ⟨w.heap.size, 1, none⟩ = some (.slice A r.num.length c) := by rw [k4.out.cell]; rfl
      have m2 : w4.cell? ⟨w.heap.size, 2, none⟩ = some (.slice B r.den.length d) := by rw [k4.out.cell]; rfl
      rw [HNG.out] at m0
      clear hd4
      have CZ := Hd.mk (HZ.out _ (HR.out.up (hb2.out.trans (hb4.out.mono hb2.out.size))))
      rw [hn] at CZ
      go_wp2_with fail
      refine CZ.out.mono ?_
      rintro e w5 ⟨rfl, hb5⟩
      have hb5' : Hd (Below w.heap.size w w5) := ⟨(hb2.out.trans (hb4.out.mono hb2.out.size)).trans (hb5.mono (Nat.le_trans hb2.out.size hb4.out.size))⟩
      clear hb5
      go_wp2_with fail
      go_ret
      exact ⟨retBool HM2.out.symm, hb5'.out⟩
    ·have hn' : r.neg = false := by simpa using hn
     have HM2 : Hd (ratMay r = true) := ⟨by unfold ratMay; rw [hn', HM.out.1, HM.out.2, decide_eq_true HG.out.1, decide_eq_true HG.out.2]; simp⟩
     rw [hn'] at l0
     have HNG := Hd.mk hn'
     clear hn
     go_wp2_with fail
     refine CC.out.mono ?_
     rintro e w4 ⟨rfl, hd4⟩
     have hb4 : Hd (Below w2.heap.size w2 w4) := ⟨hb3.out.trans (hd4.below.mono hb3.out.size)⟩
     have k4 := Hd.mk (k2.out.up hb4.out)
     have m0 : w4.cell? ⟨w.heap.size, 0, none⟩ = some (.bool r.neg) := by rw [k4.out.cell]; rfl
     have m1 : w4.cell? ⟨w.heap.size, 1, none⟩ = some (.slice A r.num.length c) := by rw [k4.out.cell]; rfl
     have m2 : w4.cell? ⟨w.heap.size, 2, none⟩ = some (.slice B r.den.length d) := by rw [k4.out.cell]; rfl
     rw [HNG.out] at m0
     clear hd4
     go_wp2_with fail
     go_ret
     exact ⟨retBool HM2.out.symm, hb2.out.trans (hb4.out.mono hb2.out.size)⟩
   ·have HM2 : Hd (ratMay r = false) := ⟨by unfold ratMay; rw [decide_eq_false hg1]; simp⟩
    obtain ⟨cm, hcm, hcm0⟩ : ∃ cm, cmpN (Nat.gcd (val r.num) (val r.den)) 1 = cm ∧ cm ≠ 0 := ⟨_, rfl, by unfold cmpN; split; omega; split <;> omega⟩
    rw [hcm] at CC
    have e2 : (cm == 0) = false := by rw [beq_eq_false_iff_ne]; exact hcm0
    clear hd0 hg1 r1 HR3 hgl hcm hcm0
    go_wp2_with fail
    refine CC.out.mono ?_
    rintro e w4 ⟨rfl, hd4⟩
    have hb4 : Hd (Below w2.heap.size w2 w4) := ⟨hb3.out.trans (hd4.below.mono hb3.out.size)⟩
    have k4 := Hd.mk (k2.out.up hb4.out)
    have m0 : w4.cell? ⟨w.heap.size, 0, none⟩ = some (.bool r.neg) := by rw [k4.out.cell]; rfl
    have m1 : w4.cell? ⟨w.heap.size, 1, none⟩ = some (.slice A r.num.length c) := by rw [k4.out.cell]; rfl
    have m2 : w4.cell? ⟨w.heap.size, 2, none⟩ = some (.slice B r.den.length d) := by rw [k4.out.cell]; rfl
    skip
    clear hd4
    go_wp2_with fail
    go_ret
    exact ⟨retBool HM2.out.symm, hb2.out.trans (hb4.out.mono hb2.out.size)⟩
  ·have e1 : ¬ (0 : Int) < r.den.length := by omega
   have HM2 : Hd (ratMay r = false) := ⟨by unfold ratMay; rw [decide_eq_false hd0]; simp⟩
   clear hd0
   go_wp2_with fail
   go_ret
   exact ⟨retBool HM2.out.symm, hb2.out⟩
def plusD (neg : Bool) (x : Nat) (too : Bool) (y : Nat) : Bool × Nat := if neg = too then (neg, x + y) else if x < y then (too, y - x) else (neg, x - y)
theorem ratio_plus (A B : Option Addr) (c d : Nat) (l m : List Int) (neg too : Bool) (w : World) (h : RdI w .u64 A l) (hn : l.length ≤ c) (h' : RdI w .u64 B m) (hn' : m.length ≤ d) (hu : U64 l) (hu' : U64 m) (h9 : l.length ≤ 10000000) (h9' : m.length ≤ 10000000) :
    Calls Tryz.prog 282 #[.bool neg, .slice A l.length c, .bool too, .slice B m.length d] w fun e w' => ∃ v, e = .returned (.tuple #[.bool (plusD neg (val l) too (val m)).1, v]) ∧
     OwnI w' w.heap.size 112 .u64 v (limbs (plusD neg (val l) too (val m)).2) ∧ Below w.heap.size w w' := by
 by_cases hs : neg = too
 ·have e1 : (neg == too) = true := by rw [beq_iff_eq]; exact hs
  have CA := Hd.mk (limb_Add A B c d l m w h hn (by omega) h' hn' (by omega) hu hu')
  have HP : Hd (plusD neg (val l) too (val m) = (neg, val l + val m)) := ⟨by unfold plusD; rw [if_pos hs]⟩
  rw [HP.out]
  clear hs h h'
  go_enter Tryz.func282, Tryz.ntmps282
  go_wp2_with fail
  refine CA.out.mono ?_
  rintro e w2 ⟨v, rfl, ho, hb⟩
  have HO := Hd.mk ho
  have HB := Hd.mk hb
  clear ho hb
  go_wp2_with fail
  go_ret2
  exact ⟨_, rfl, HO.out, HB.out⟩
 ·have e1 : (neg == too) = false := by rw [beq_eq_false_iff_ne]; exact hs
  have CC := Hd.mk (limb_Cmp A B c d l m w h hn (by omega) h' hn' (by omega) hu hu')
  by_cases hlt : val l < val m
  ·rw [cmpN_lt hlt] at CC
   have HP : Hd (plusD neg (val l) too (val m) = (too, val m - val l)) := ⟨by unfold plusD; rw [if_neg hs, if_pos hlt]⟩
   rw [HP.out]
   have CS := Hd.mk (fun n => limb_Sub_ge B A d c m l (w.drewN n) h' hn' (by omega) h hn (by omega) hu' hu (by omega))
   clear hs h h' hlt
   go_enter Tryz.func282, Tryz.ntmps282
   go_wp2_with fail
   refine CC.out.mono ?_
   rintro e w2 ⟨rfl, ⟨nq, rfl⟩⟩
   go_wp2_with fail
   refine (CS.out nq).mono ?_
   rintro e w2 ⟨v, rfl, ho, hb⟩
   have HO := Hd.mk ho
   have HB := Hd.mk hb
   clear ho hb
   go_wp2_with fail
   go_ret2
   exact ⟨_, rfl, HO.out, (Dr.below ⟨nq, rfl⟩).trans HB.out⟩
  ·obtain ⟨cm, hcm, hcm0⟩ : ∃ cm, cmpN (val l) (val m) = cm ∧ decide (cm < 0) = false := ⟨_, rfl, by apply decide_eq_false; unfold cmpN; split; omega; split <;> omega⟩
   rw [hcm] at CC
   have HP : Hd (plusD neg (val l) too (val m) = (neg, val l - val m)) := ⟨by unfold plusD; rw [if_neg hs, if_neg hlt]⟩
   rw [HP.out]
   have CS := Hd.mk (fun n => limb_Sub_ge A B c d l m (w.drewN n) h hn (by omega) h' hn' (by omega) hu hu' (by omega))
   clear hs h h' hlt hcm
   go_enter Tryz.func282, Tryz.ntmps282
   go_wp2_with fail
   refine CC.out.mono ?_
   rintro e w2 ⟨rfl, ⟨nq, rfl⟩⟩
   go_wp2_with fail
   refine (CS.out nq).mono ?_
   rintro e w2 ⟨v, rfl, ho, hb⟩
   have HO := Hd.mk ho
   have HB := Hd.mk hb
   clear ho hb
   go_wp2_with fail
   go_ret2
   exact ⟨_, rfl, HO.out, (Dr.below ⟨nq, rfl⟩).trans HB.out⟩
theorem rrat_Zero (b0 : Nat) (v : Value) (r : RatD) (w : World) (h : RRat w b0 v r) :
    Calls Tryz.prog 84 #[v] w fun e w' => e = .returned (.bool (decide (r.num.length = 0))) ∧ Below w.heap.size w w' := by
 obtain ⟨A, c, B, d, rfl, _, _, _, _⟩ := h
 by_cases h0 : r.num.length = 0
 ·have e1 : ((r.num.length : Int) == 0) = true := by rw [beq_iff_eq]; omega
  have HD : Hd (decide (r.num.length = 0) = true) := ⟨decide_eq_true h0⟩
  clear h0
  go_enter Tryz.func84, Tryz.ntmps84
  go_wp2_with fail
  go_ret
  exact ⟨retBool HD.out.symm, (Below.refl _ _).alloc (Nat.le_refl _) _⟩
 ·have e1 : ((r.num.length : Int) == 0) = false := by rw [beq_eq_false_iff_ne]; omega
  have HD : Hd (decide (r.num.length = 0) = false) := ⟨decide_eq_false h0⟩
  clear h0
  go_enter Tryz.func84, Tryz.ntmps84
  go_wp2_with fail
  go_ret
  exact ⟨retBool HD.out.symm, (Below.refl _ _).alloc (Nat.le_refl _) _⟩
theorem rrat_May (b0 : Nat) (v : Value) (r : RatD) (w : World) (h : RRat w b0 v r) (hs : r.short) :
    Calls Tryz.prog 83 #[v] w fun e w' => e = .returned (.bool (ratMay r)) ∧ Below w.heap.size w w' := by
 obtain ⟨A, c, B, d, rfl, h1, h2, h3, h4⟩ := h
 obtain ⟨hs1, hs2⟩ := hs
 have hb1 : Hd (Below w.heap.size w (w.alloc (Obj.cells #[.bool r.neg, .slice A r.num.length c, .slice B r.den.length d] 64))) := ⟨(Below.refl _ _).alloc (Nat.le_refl _) _⟩
 have k1 := Hd.mk (Bk.new_ w 64 #[.bool r.neg, .slice A r.num.length c, .slice B r.den.length d])
 have C1 := Hd.mk (rnat_May A c r.num _ (h3.rd.up hb1.out) h1 (by omega))
 have C2 := Hd.mk (rnat_May B d r.den _ (h4.rd.up hb1.out) h2 (by omega))
 cases hm1 : natMay r.num
 ·rw [hm1] at C1
  have HM : Hd (ratMay r = false) := ⟨by unfold ratMay; rw [hm1]; rfl⟩
  clear hm1 h3 h4 C2
  go_enter Tryz.func83, Tryz.ntmps83
  go_wp2_with fail
  refine C1.out.mono ?_
  rintro e w' ⟨rfl, rfl⟩
  go_wp2_with fail
  go_ret
  exact ⟨retBool HM.out.symm, hb1.out⟩
 cases hm2 : natMay r.den
 ·rw [hm1] at C1
  rw [hm2] at C2
  have HM : Hd (ratMay r = false) := ⟨by unfold ratMay; rw [hm2, Bool.and_false]; rfl⟩
  clear hm1 hm2 h3 h4
  go_enter Tryz.func83, Tryz.ntmps83
  go_wp2_with fail
  refine C1.out.mono ?_
  rintro e w' ⟨rfl, rfl⟩
  go_wp2_with fail
  refine C2.out.mono ?_
  rintro e w' ⟨rfl, rfl⟩
  go_wp2_with fail
  go_ret
  exact ⟨retBool HM.out.symm, hb1.out⟩
 rw [hm1] at C1
 rw [hm2] at C2
 by_cases hd0 : 0 < r.den.length
 ·have e1 : ((r.den.length : Int) == 0) = false := by rw [beq_eq_false_iff_ne]; omega
  have CG := Hd.mk (rquot_Gcd A B c d r.num r.den _ (h3.rd.up hb1.out) h1 (h4.rd.up hb1.out) h2 h3.u h4.u hm1 hm2)
  have HM := Hd.mk (And.intro hm1 hm2)
  have HU := Hd.mk (And.intro h3.u h4.u)
  have hgl := Hd.mk (gcd_len h3.u h4.u (natMay_len hm1) (natMay_len hm2))
  have HD0 := Hd.mk hd0
  clear hm1 hm2 h3 h4 hd0
  go_enter Tryz.func83, Tryz.ntmps83
  go_wp2_with fail
  refine C1.out.mono ?_
  rintro e w' ⟨rfl, rfl⟩
  go_wp2_with fail
  refine C2.out.mono ?_
  rintro e w' ⟨rfl, rfl⟩
  go_wp2_with fail
  refine CG.out.mono ?_
  rintro e w2 ⟨A3, c3, G, rfl, hG, hc3, hr3, hb⟩
  have hb2 : Hd (Below w.heap.size w w2) := ⟨hb1.out.trans (hb.mono hb1.out.size)⟩
  have k2 := Hd.mk (k1.out.up hb)
  have l0 : w2.cell? ⟨w.heap.size, 0, none⟩ = some (.bool r.neg) := by rw [k2.out.cell]; rfl
  have l1 : w2.cell? ⟨w.heap.size, 1, none⟩ = some (.slice A r.num.length c) := by rw [k2.out.cell]; rfl
  have l2 : w2.cell? ⟨w.heap.size, 2, none⟩ = some (.slice B r.den.length d) := by rw [k2.out.cell]; rfl
  have hb3 : Hd (Below w2.heap.size w2 (w2.alloc (Obj.cells #[.int .u64 1] 112))) := ⟨(Below.refl _ _).alloc (Nat.le_refl _) _⟩
  have CS := Hd.mk (rnat_Same A3 (some ⟨w2.heap.size, 0, none⟩) c3 1 G [1] _ (hr3.up hb3.out) hc3 (rd1 w2 1 _ rfl) (Nat.le_refl _) (by rw [hG]; have := hgl.out; omega) (by simp))
  have HG1 : Hd (decide (G = [1]) = decide (Nat.gcd (val r.num) (val r.den) = 1)) := ⟨by
   rw [hG]
   apply decide_eq_decide.2
   constructor
   ·intro e
    have := congrArg val e
    rw [val_limbs] at this
    simpa [val] using this
   ·intro e
    rw [e]
    exact limbs_of (l := [1]) (U64.nil.cons (by omega) (by omega)) (by decide)⟩
  obtain ⟨sb, hsb⟩ : ∃ sb, decide (G = [1]) = sb := ⟨_, rfl⟩
  rw [hsb] at CS HG1
  clear hb hr3 hG k1 hb1 CG C1 C2 hsb
  cases sb
  ·have HM2 : Hd (ratMay r = false) := ⟨by unfold ratMay; rw [← HG1.out]; simp⟩
   go_wp2_with fail
   refine CS.out.mono ?_
   rintro e w4 ⟨rfl, hd4⟩
   have hb4 : Hd (Below w.heap.size w w4) := ⟨hb2.out.trans ((hb3.out.trans (hd4.below.mono hb3.out.size)).mono hb2.out.size)⟩
   clear hd4
   go_wp2_with fail
   go_ret
   exact ⟨retBool HM2.out.symm, hb4.out⟩
  ·obtain ⟨nb, hnb⟩ : ∃ nb, r.neg = nb := ⟨_, rfl⟩
   have HM2 : Hd (ratMay r = (!nb || !decide (r.num.length = 0))) := ⟨by unfold ratMay; rw [← HG1.out, HM.out.1, HM.out.2, decide_eq_true HD0.out, hnb]; simp⟩
   rw [hnb] at l0
   cases nb
   ·go_wp2_with fail
    refine CS.out.mono ?_
    rintro e w4 ⟨rfl, hd4⟩
    have hb24 := Hd.mk (hb3.out.trans (hd4.below.mono hb3.out.size))
    have hb4 : Hd (Below w.heap.size w w4) := ⟨hb2.out.trans (hb24.out.mono hb2.out.size)⟩
    have m0 := cell_up l0 hb24.out
    have m1 := cell_up l1 hb24.out
    clear hd4 l0 l1 l2
    go_wp2_with fail
    go_ret
    exact ⟨retBool HM2.out.symm, hb4.out⟩
   ·by_cases hz : r.num.length = 0
    ·have z1 : ((r.num.length : Int) == 0) = true := by rw [beq_iff_eq]; omega
     rw [decide_eq_true hz] at HM2
     clear hz
     go_wp2_with fail
     refine CS.out.mono ?_
     rintro e w4 ⟨rfl, hd4⟩
     have hb24 := Hd.mk (hb3.out.trans (hd4.below.mono hb3.out.size))
     have hb4 : Hd (Below w.heap.size w w4) := ⟨hb2.out.trans (hb24.out.mono hb2.out.size)⟩
     have m0 := cell_up l0 hb24.out
     have m1 := cell_up l1 hb24.out
     clear hd4 l0 l1 l2
     go_wp2_with fail
     go_ret
     exact ⟨retBool HM2.out.symm, hb4.out⟩
    ·have z1 : ((r.num.length : Int) == 0) = false := by rw [beq_eq_false_iff_ne]; omega
     rw [decide_eq_false hz] at HM2
     clear hz
     go_wp2_with fail
     refine CS.out.mono ?_
     rintro e w4 ⟨rfl, hd4⟩
     have hb24 := Hd.mk (hb3.out.trans (hd4.below.mono hb3.out.size))
     have hb4 : Hd (Below w.heap.size w w4) := ⟨hb2.out.trans (hb24.out.mono hb2.out.size)⟩
     have m0 := cell_up l0 hb24.out
     have m1 := cell_up l1 hb24.out
     clear hd4 l0 l1 l2
     go_wp2_with fail
     go_ret
     exact ⟨retBool HM2.out.symm, hb4.out⟩
 ·have e1 : ((r.den.length : Int) == 0) = true := by rw [beq_iff_eq]; omega
  have HM : Hd (ratMay r = false) := ⟨by unfold ratMay; rw [decide_eq_false hd0]; simp⟩
  clear hm1 hm2 h3 h4 hd0
  go_enter Tryz.func83, Tryz.ntmps83
  go_wp2_with fail
  refine C1.out.mono ?_
  rintro e w' ⟨rfl, rfl⟩
  go_wp2_with fail
  refine C2.out.mono ?_
  rintro e w' ⟨rfl, rfl⟩
  go_wp2_with fail
  go_ret
  exact ⟨retBool HM.out.symm, hb1.out⟩
end Go.Proofs.YtgjkgkgieeoalaaGreat
