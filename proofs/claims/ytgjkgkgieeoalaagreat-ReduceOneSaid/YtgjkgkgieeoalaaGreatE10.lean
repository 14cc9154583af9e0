/- Parts of the proof, joined: each theorem says what it shows. -/
import Derived.Test.YtgjkgkgieeoalaaGreatE01
import Derived.Test.YtgjkgkgieeoalaaGreatE07
import Derived.Laws.ResultCell
import Derived.Laws.Rows
set_option linter.unusedVariables false
set_option linter.unusedSimpArgs false
set_option maxHeartbeats 24000000
set_option maxRecDepth 100000
namespace Go.Proofs.YtgjkgkgieeoalaaGreat
open Go.RowKit
theorem take_eq_succ {l m : List Int} {i : Nat} (hl : i < l.length) (hm : i < m.length) (h : l.take i = m.take i) (e : l.getD i 0 = m.getD i 0) : l.take (i + 1) = m.take (i + 1) := by
 rw [take_snoc hl, take_snoc hm, h, e]
theorem slices_Equal (A B : Option Addr) (c d : Nat) (l m : List Int) (w : World) (h : RdI w .u64 A l) (hn : l.length ≤ c) (h' : RdI w .u64 B m) (hn' : m.length ≤ d) (h9 : l.length ≤ 1000000000) (h9' : m.length ≤ 1000000000) :
    Calls Tryz.prog 203 #[.slice A l.length c, .slice B m.length d] w fun e w' => e = .returned (.bool (decide (l = m))) ∧ Dr w w' := by
 by_cases hl : l.length = m.length
 ·have hb : ((l.length : Int) != (m.length : Int)) = false := by rw [bne_eq_false_iff_eq]; omega
  have HL := aa hl
  have H := aa h
  have H' := aa h'
  clear h h' hl
  go_enter Tryz.func203, Tryz.ntmps203
  go_wp2_with fail
  go_loopw [13] (fun v wr => ∃ i : Nat, v = .int .i64 i ∧ i ≤ l.length ∧ Hd (l.take i = m.take i) ∧ Hd (Dr w wr)) (fun v _ => l.length - (intOf v).toNat)
  case atStart => exact ⟨0, rfl, by omega, ⟨by simp⟩, ⟨.refl _⟩⟩
  case round =>
   obtain ⟨i, rfl, hi, ht, ⟨⟨nq, rfl⟩⟩⟩ := hrel
   by_cases hlt : i < l.length
   ·have hlt2 : i < m.length := by have := HL.out; omega
    obtain ⟨ad, x, rfl, _, hx, hcx⟩ := H.out.get hlt
    obtain ⟨bd, y, rfl, _, hy, hcy⟩ := H'.out.get hlt2
    have i1 : (i : Int) < m.length := by omega
    have i2 : (i : Int) < l.length := by omega
    have i3 : (0 : Int) ≤ i := by omega
    by_cases hxy : x = y
    ·have hbn : (x != y) = false := by rw [bne_eq_false_iff_eq]; exact hxy
     go_wp2_with fail
     go_quiet (fail)
     go_wp2_with fail
     go_roundw
     case measure => first | (simp [intOf]; done) | (simp [intOf]; omega)
     case rel => exact ⟨i + 1, by go_num, by omega, ⟨take_eq_succ hlt hlt2 ht.out (by rw [hx.out, hy.out]; exact hxy)⟩, ⟨by repeat (first | exact .refl _ | apply Dr.dn)⟩⟩
    ·have hbn : (x != y) = true := by rw [bne_iff_ne]; exact hxy
     go_wp2_with fail
     go_quiet (fail)
     go_wp2_with fail
     go_ret
     refine ⟨retBool (decide_eq_false ?_).symm, by repeat (first | exact .refl _ | apply Dr.dn)⟩
     intro e
     apply hxy
     rw [← hx.out, ← hy.out, e]
   ·have hie : i = l.length := by omega
    subst hie
    go_wp2_with fail
    go_ret
    refine ⟨retBool (decide_eq_true ?_).symm, by repeat (first | exact .refl _ | apply Dr.dn)⟩
    have := ht.out
    rwa [List.take_length, HL.out, List.take_length] at this
 ·have hb : ((l.length : Int) != (m.length : Int)) = true := by rw [bne_iff_ne]; omega
  have HL := aa hl
  clear hl
  go_enter Tryz.func203, Tryz.ntmps203
  go_wp2_with fail
  go_ret
  exact ⟨retBool (decide_eq_false (fun e => HL.out (by rw [e]))).symm, .refl _⟩
theorem clone_nat (A : Option Addr) (c : Nat) (l : List Int) (w : World) (h : RdI w .u64 A l) (hn : l.length ≤ c) (hb9 : l.length ≤ 2000000000) :
    Calls Tryz.prog 170 #[.slice A l.length c] w fun e w' => ∃ v, e = .returned v ∧ OwnI w' w.heap.size 112 .u64 v l ∧ Below w.heap.size w w' := by
 obtain ⟨i0, hi, hz0, hz1, hz2⟩ := info_split Tryz.infU64
 have hnil := fun (w : World) => Lib.run_eql_slice_nil (P := Tryz.prog) w 62 _ A l.length c 0 0 Tryz.slNat
 have h0 : l.length + 0 ≤ maxLen := by unfold maxLen; omega
 have H := aa h
 clear h
 cases A with
 | none =>
   have hl : l = [] := by
    cases l with
    | nil => rfl
    | cons x l => obtain ⟨ad, h, _⟩ := H.out.at_ (i := 0) (by simp); cases h
   subst hl
   clear hb9 h0 hn H hnil
   have hnil := fun (w : World) => Lib.run_eql_slice_nil (P := Tryz.prog) w 62 _ none 0 c 0 0 Tryz.slNat
   go_enter Tryz.func170, Tryz.ntmps170
   go_wp2
   go_ret
   exact ⟨_, rfl, OwnI.nil _ _ _ _, ag _ _⟩
 | some ad =>
   have hown : (w.alloc (.cells #[] 112)).ownsRow w.heap.size 112 1 (.slice (some ⟨w.heap.size, 0, none⟩) 0 0) 0 [] :=
    World.ownsRow_lit w #[] 0 (ae _) (by unfold maxLen; omega) rfl
   have HO := aa hown
   clear hown
   go_enter Tryz.func170, Tryz.ntmps170
   go_wp2_with (at_builtin; refine wpList_append_rd _ rfl _ _ 62 rfl w.heap.size 112 i0 (.int .u64 0) 1 8 Tryz.slNat hi hz0 hz1 hz2 rfl (by decide) _ _ _ rfl HO.out _ _ _ _ (ints .u64 l) rfl (Rd.up H.out ((ag _ _).alloc (ae _) _)) (ints_one _ _) ?c1 ?c2 ?c3 ?_)
   case c1 => unfold maxLen; omega
   case c2 => omega
   case c3 => simp
   intro v' w' ho hg _
   go_wp2
   go_ret
   have ho2 : OwnI w' w.heap.size 112 .u64 v' l := by simpa [OwnI] using ho
   exact ⟨_, rfl, ho2, grown_below HO.out hg ((ag _ _).alloc (ae _) _) (by simp)⟩
theorem big_1 (A : Option Addr) (n c : Nat) (w : World) :
    Calls Tryz.prog 232 #[.slice A n c] w fun e w' => e = .returned (.bool (decide (8 < n))) ∧ w = w' := by
 by_cases h : 8 < n
 ·have hd : decide ((8 : Int) < n) = true := decide_eq_true (by omega)
  have hd2 : decide (8 < n) = true := decide_eq_true h
  go_enter Tryz.func232, Tryz.ntmps232
  go_wp2_with fail
  go_ret
  simp
  omega
 ·have hd : decide ((8 : Int) < n) = false := decide_eq_false (by omega)
  have hd2 : decide (8 < n) = false := decide_eq_false h
  go_enter Tryz.func232, Tryz.ntmps232
  go_wp2_with fail
  go_ret
  simp
  omega
def isBig (rs : List (List Int)) : Bool := rs.any fun r => decide (8 < r.length)
theorem index_big (A : Option Addr) (c : Nat) (rs : List (List Int)) (w : World) (h : RdRows w A rs) (hn : rs.length ≤ c) (h6 : rs.length ≤ 100000000) :
    Calls Tryz.prog 275 #[.slice A rs.length c, .func (.func 232) #[] #[]] w fun e w' => ∃ i : Int, e = .returned (.int .i64 i) ∧ decide (0 ≤ i) = isBig rs ∧ w = w' := by
 have H := aa h
 clear h
 go_enter Tryz.func275, Tryz.ntmps275
 go_wp2_with fail
 go_loop [8] (fun v => ∃ i : Nat, v = .int .i64 i ∧ i ≤ rs.length ∧ Hd (isBig (rs.take i) = false)) (fun v => rs.length - (intOf v).toNat)
 case atStart => exact ⟨0, rfl, by omega, ⟨rfl⟩⟩
 case round =>
  obtain ⟨i, rfl, hi, ht⟩ := hrel
  by_cases hlt : i < rs.length
  ·obtain ⟨ad, a, r, c2, rfl, _, hcell, hr, hc2, _⟩ := H.out.get hlt
   have i2 : (i : Int) < rs.length := by omega
   have hsn : Hd (isBig (rs.take (i + 1)) = (isBig (rs.take i) || decide (8 < r.length))) := ⟨by
    have := hr.out
    rw [ai hlt] at this
    injection this with this
    rw [List.take_add_one, ai hlt, this, isBig, List.any_append]; simp [isBig]⟩
   have CB := aa (big_1 a r.length c2 w)
   by_cases h8 : 8 < r.length
   ·rw [decide_eq_true h8] at CB hsn
    clear h8
    go_wp2_with fail
    refine CB.out.mono ?_
    rintro e w' ⟨rfl, rfl⟩
    go_wp2_with fail
    go_ret
    refine ⟨_, rfl, ?_, rfl⟩
    have h1 := hsn.out
    rw [Bool.or_true] at h1
    rw [decide_eq_true (by omega : (0 : Int) ≤ i)]
    have h2 : isBig rs = (isBig (rs.take (i + 1)) || isBig (rs.drop (i + 1))) := by
     conv => lhs; rw [← List.take_append_drop (i + 1) rs]
     rw [isBig, List.any_append]; rfl
    rw [h2, h1]; rfl
   ·rw [decide_eq_false h8] at CB hsn
    clear h8
    go_wp2_with fail
    refine CB.out.mono ?_
    rintro e w' ⟨rfl, rfl⟩
    go_wp2_with fail
    go_round
    case measure => first | (simp [intOf]; done) | (simp [intOf]; omega)
    case rel => exact ⟨i + 1, by go_num, by omega, ⟨by rw [hsn.out, ht.out]; rfl⟩⟩
  ·have hie : i = rs.length := by omega
   subst hie
   go_wp2_with fail
   go_ret
   refine ⟨_, rfl, ?_, rfl⟩
   have := ht.out
   rw [List.take_length] at this
   rw [this]; rfl
theorem ratio_big (A : Option Addr) (c : Nat) (rs : List (List Int)) (w : World) (h : RdRows w A rs) (hn : rs.length ≤ c) (h6 : rs.length ≤ 100000000) :
    Calls Tryz.prog 172 #[.slice A rs.length c] w fun e w' => e = .returned (.bool (isBig rs)) ∧ w = w' := by
 have hi := aa (index_big A c rs w h hn h6)
 have hc : Calls Tryz.prog 231 #[.slice A rs.length c, .func (.func 232) #[] #[]] w fun e w' => e = .returned (.bool (isBig rs)) ∧ w = w' := by
  clear h
  go_enter Tryz.func231, Tryz.ntmps231
  go_wp2_with fail
  refine hi.out.mono ?_
  rintro e w' ⟨i, rfl, hib, rfl⟩
  have HIB := aa hib
  clear hib
  go_wp2_with fail
  go_ret
  exact ⟨retBool HIB.out, rfl⟩
 have HC := aa hc
 clear h hc
 go_enter Tryz.func172, Tryz.ntmps172
 go_wp2_with fail
 refine HC.out.mono ?_
 rintro e w' ⟨rfl, rfl⟩
 go_wp2_with fail
 go_ret
 exact ⟨rfl, rfl⟩
def RRow (w : World) (b0 : Nat) (A : Option Addr) (l : List Int) : Prop :=
 RdI w .u64 A l ∧ U64 l ∧ (0 < l.length → ∀ ad, A = some ad → ad.block < b0 ∨ ∃ cs, Bk w ad.block 112 cs)
section
variable {w w' : World} {b0 b1 : Nat} {A : Option Addr} {l : List Int}
theorem RRow.rd (h : RRow w b0 A l) : RdI w .u64 A l := h.1
theorem RRow.u (h : RRow w b0 A l) : U64 l := h.2.1
theorem RRow.up (h : RRow w b0 A l) (hb : Below w.heap.size w w') : RRow w' b0 A l :=
 ⟨h.1.up hb, h.2.1, fun h0 ad e => (h.2.2 h0 ad e).imp id fun ⟨cs, hk⟩ => ⟨cs, hk.up hb⟩⟩
theorem RRow.nil (w : World) (b0 : Nat) (A : Option Addr) : RRow w b0 A [] := ⟨RdI.nil _ _ _, U64.nil, fun h => by cases h⟩
theorem RRow.of_own {base : Nat} {n c : Nat} (h : OwnI w base 112 .u64 (.slice A n c) l) (hu : U64 l) (b0 : Nat) : RRow w b0 A l ∧ n = l.length ∧ l.length ≤ c := by
 obtain ⟨A', c', hv, hc, _, hr⟩ := h.reads
 injection hv with hv1 hv2 hv3
 subst hv1 hv2 hv3
 refine ⟨⟨hr, hu, fun h0 ad e => ?_⟩, rfl, hc⟩
 subst e
 obtain ⟨g, c2, hv, _, _, _, hw⟩ := Wn.of_own h h0
 injection hv with hv1
 injection hv1 with hv1
 subst hv1
 obtain ⟨cur, hk, _⟩ := hw
 exact .inr ⟨_, hk⟩
theorem RRow.grown {row : Option Nat} (h : RRow w b0 A l) (hg : w.grownBy w' row) (hr : ∀ g, row = some g → b0 ≤ g ∧ ∃ t cs, Bk w g t cs ∧ t ≠ 112) : RRow w' b0 A l := by
 have key : 0 < l.length → ∀ ad, A = some ad → some ad.block ≠ row := fun h0 ad e er => by
  obtain ⟨h1, t, cs, h2, h3⟩ := hr _ er.symm
  rcases h.2.2 h0 ad e with h4 | ⟨cs', h4⟩
  ·omega
  ·exact Bk.ne_ h4 h2 (Ne.symm h3) rfl
 refine ⟨?_, h.2.1, fun h0 ad e => (h.2.2 h0 ad e).imp id fun ⟨cs, hk⟩ => ⟨cs, hk.grown hg (key h0 ad e)⟩⟩
 refine ⟨h.1.1, fun h0 => ?_⟩
 obtain ⟨ad, e, hb, hc⟩ := h.1.2 h0
 refine ⟨ad, e, Nat.lt_of_lt_of_le hb hg.size, fun j u hu => ?_⟩
 rw [← hc j u hu]
 exact World.cell?_of_block (hg.block _ (by rw [add_block]; exact hb) (by rw [add_block]; exact key h0 ad e))
theorem RRow.dn (h : RRow w b0 A l) (n : Nat) : RRow (w.drewN n) b0 A l := h
end
structure RatD where
 neg : Bool
 num : List Int
 den : List Int
def zeroD : RatD := ⟨false, [], []⟩
def RRat (w : World) (b0 : Nat) (v : Value) (r : RatD) : Prop :=
 ∃ A c B d, v = .agg #[.bool r.neg, .slice A r.num.length c, .slice B r.den.length d] ∧ r.num.length ≤ c ∧ r.den.length ≤ d ∧ RRow w b0 A r.num ∧ RRow w b0 B r.den
section
variable {w w' : World} {b0 b1 : Nat} {v : Value} {r : RatD}
theorem RRat.up (h : RRat w b0 v r) (hb : Below w.heap.size w w') : RRat w' b0 v r := let ⟨A, c, B, d, e, h1, h2, h3, h4⟩ := h; ⟨A, c, B, d, e, h1, h2, h3.up hb, h4.up hb⟩
theorem RRat.grown {row : Option Nat} (h : RRat w b0 v r) (hg : w.grownBy w' row) (hr : ∀ g, row = some g → b0 ≤ g ∧ ∃ t cs, Bk w g t cs ∧ t ≠ 112) : RRat w' b0 v r :=
 let ⟨A, c, B, d, e, h1, h2, h3, h4⟩ := h; ⟨A, c, B, d, e, h1, h2, h3.grown hg hr, h4.grown hg hr⟩
theorem RRat.zero (w : World) (b0 : Nat) : RRat w b0 (.agg #[.bool false, .slice none 0 0, .slice none 0 0]) zeroD := ⟨_, _, _, _, rfl, ae _, ae _, RRow.nil _ _ _, RRow.nil _ _ _⟩
end
def RatD.short (r : RatD) : Prop := r.num.length ≤ 1000000 ∧ r.den.length ≤ 1000000
theorem ratio_Zero (b0 : Nat) (v : Value) (r : RatD) (w : World) (h : RRat w b0 v r) :
    Calls Tryz.prog 165 #[v] w fun e w' => e = .returned (.bool (decide (r.num.length = 0))) ∧ Below w.heap.size w w' := by
 obtain ⟨A, c, B, d, rfl, _, _, _, _⟩ := h
 by_cases h0 : r.num.length = 0
 ·have e1 : ((r.num.length : Int) == 0) = true := by rw [beq_iff_eq]; omega
  have HD : Hd (decide (r.num.length = 0) = true) := ⟨decide_eq_true h0⟩
  clear h0
  go_enter Tryz.func165, Tryz.ntmps165
  go_wp2_with fail
  go_ret
  exact ⟨retBool HD.out.symm, (ag _ _).alloc (ae _) _⟩
 ·have e1 : ((r.num.length : Int) == 0) = false := by rw [beq_eq_false_iff_ne]; omega
  have HD : Hd (decide (r.num.length = 0) = false) := ⟨decide_eq_false h0⟩
  clear h0
  go_enter Tryz.func165, Tryz.ntmps165
  go_wp2_with fail
  go_ret
  exact ⟨retBool HD.out.symm, (ag _ _).alloc (ae _) _⟩
theorem ratio_crossed (b0 : Nat) (v u : Value) (r s : RatD) (w : World) (h : RRat w b0 v r) (h' : RRat w b0 u s) (hr : r.short) (hs : s.short) :
    Calls Tryz.prog 281 #[v, u] w fun e w' => ∃ x y, e = .returned (.tuple #[x, y]) ∧ OwnI w' w.heap.size 112 .u64 x (limbs (val r.num * val s.den)) ∧ OwnI w' w.heap.size 112 .u64 y (limbs (val s.num * val r.den)) ∧ Below w.heap.size w w' := by
 obtain ⟨A, c, B, d, rfl, h1, h2, h3, h4⟩ := h
 obtain ⟨A', c', B', d', rfl, h1', h2', h3', h4'⟩ := h'
 have C1 := aa (fun W (hb : Hd (Below w.heap.size w W)) => limb_Mul A B' c d' r.num s.den W (h3.rd.up hb.out) h1 (by have := hr.1; omega) (h4'.rd.up hb.out) h2' (by have := hs.2; omega) h3.u h4'.u)
 have C2 := aa (fun W (hb : Hd (Below w.heap.size w W)) => limb_Mul A' B c' d s.num r.den W (h3'.rd.up hb.out) h1' (by have := hs.1; omega) (h4.rd.up hb.out) h2 (by have := hr.2; omega) h3'.u h4.u)
 clear h3 h4 h3' h4'
 go_enter Tryz.func281, Tryz.ntmps281
 go_wp2_with fail
 obtain ⟨W, hW⟩ : ∃ W, W = ((w.alloc (Obj.cells #[.bool r.neg, .slice A r.num.length c, .slice B r.den.length d] 64)).alloc (Obj.cells #[.bool s.neg, .slice A' s.num.length c', .slice B' s.den.length d'] 64)) := ⟨_, rfl⟩
 rw [← hW]
 have k1 : Hd (Bk W w.heap.size 64 #[.bool r.neg, .slice A r.num.length c, .slice B r.den.length d]) := ⟨by rw [hW]; exact (Bk.new_ _ _ _).al _⟩
 have k2 : Hd (Bk W (w.heap.size + 1) 64 #[.bool s.neg, .slice A' s.num.length c', .slice B' s.den.length d']) := ⟨by
  rw [hW]
  have := Bk.new_ (w.alloc (Obj.cells #[.bool r.neg, .slice A r.num.length c, .slice B r.den.length d] 64)) 64 #[.bool s.neg, .slice A' s.num.length c', .slice B' s.den.length d']
  simpa using this⟩
 have hb0 : Hd (Below w.heap.size w W) := ⟨by rw [hW]; exact ((ag _ _).alloc (ae _) _).alloc (by simp) _⟩
 clear hW
 have l1 : W.cell? ⟨w.heap.size, 1, none⟩ = some (.slice A r.num.length c) := by rw [k1.out.cell]; rfl
 have l2 : W.cell? ⟨w.heap.size, 2, none⟩ = some (.slice B r.den.length d) := by rw [k1.out.cell]; rfl
 have l3 : W.cell? ⟨w.heap.size + 1, 1, none⟩ = some (.slice A' s.num.length c') := by rw [k2.out.cell]; rfl
 have l4 : W.cell? ⟨w.heap.size + 1, 2, none⟩ = some (.slice B' s.den.length d') := by rw [k2.out.cell]; rfl
 go_region_held3 (fun w' => Hd (Below w.heap.size w w') ∧ w'.cell? ⟨w.heap.size, 1, none⟩ = some (.slice A r.num.length c) ∧ w'.cell? ⟨w.heap.size, 2, none⟩ = some (.slice B r.den.length d) ∧
     w'.cell? ⟨w.heap.size + 1, 1, none⟩ = some (.slice A' s.num.length c') ∧ w'.cell? ⟨w.heap.size + 1, 2, none⟩ = some (.slice B' s.den.length d'))
  (first
   | exact hS
   | exact ⟨hb0, l1, l2, l3, l4⟩
   | exact ⟨⟨hb0.out.drew⟩, l1, l2, l3, l4⟩)
  (first
   | (go_at_call 171; obtain ⟨hB, q1, q2, q3, q4⟩ := ‹Hd (Below w.heap.size w _) ∧ _›; with_reducible refine (C1.out _ hB).mono ?_; rintro e w' ⟨x, rfl, ho, hb⟩
      have hS := af (aa (hB.out.trans (hb.mono hB.out.size))) (af (cell_up q1 hb) (af (cell_up q2 hb) (af (cell_up q3 hb) (cell_up q4 hb))))
      have HX := aa (ho.low hB.out.size); clear ho)
   | (go_at_call 171; obtain ⟨hB, q1, q2, q3, q4⟩ := ‹Hd (Below w.heap.size w _) ∧ _›; with_reducible refine (C2.out _ hB).mono ?_; rintro e w2 ⟨y, rfl, ho, hb⟩
      have hS := af (aa (hB.out.trans (hb.mono hB.out.size))) (af (cell_up q1 hb) (af (cell_up q2 hb) (af (cell_up q3 hb) (cell_up q4 hb))))
      have HX2 := aa (HX.out.below hb)
      have HY := aa (ho.low hB.out.size)
      clear ho))
 go_wp2_with fail
 go_ret2
 exact ⟨_, _, rfl, HX2.out, HY.out, hS.1.out⟩
def ratMay (r : RatD) : Bool := natMay r.num && natMay r.den && decide (0 < r.den.length) && decide (Nat.gcd (val r.num) (val r.den) = 1) && (!r.neg || !decide (r.num.length = 0))
theorem ratMay_of {r : RatD} (h : ratMay r = true) : natMay r.num = true ∧ natMay r.den = true ∧ 0 < r.den.length ∧ Nat.gcd (val r.num) (val r.den) = 1 ∧ (r.neg = true → r.num.length ≠ 0) := by
 unfold ratMay at h
 simp only [Bool.and_eq_true, Bool.or_eq_true, decide_eq_true_eq, Bool.not_eq_true'] at h
 obtain ⟨⟨⟨⟨h1, h2⟩, h3⟩, h4⟩, h5⟩ := h
 refine ⟨h1, h2, h3, h4, fun hn => ?_⟩
 rcases h5 with h5 | h5
 ·rw [hn] at h5; cases h5
 ·exact of_decide_eq_false h5
theorem gcd_len {l m : List Int} (hl : U64 l) (hm : U64 m) (h1 : l.length ≤ 8) (h2 : m.length ≤ 8) : (limbs (Nat.gcd (val l) (val m))).length ≤ 8 := by
 rw [limbs_len]
 have e1 : val l < 18446744073709551616 ^ 8 := Nat.lt_of_lt_of_le (val_lt hl) (Nat.pow_le_pow_right (by decide) h1)
 have e2 : val m < 18446744073709551616 ^ 8 := Nat.lt_of_lt_of_le (val_lt hm) (Nat.pow_le_pow_right (by decide) h2)
 rcases Nat.eq_zero_or_pos (val m) with h0 | h0
 ·rw [h0, Nat.gcd_zero_right]; exact e1
 ·exact Nat.lt_of_le_of_lt (Nat.gcd_le_right _ h0) e2
theorem ratio_May (b0 : Nat) (v : Value) (r : RatD) (w : World) (h : RRat w b0 v r) (hs : r.short) :
    Calls Tryz.prog 169 #[v] w fun e w' => e = .returned (.bool (ratMay r)) ∧ Below w.heap.size w w' := by
 have HZ := aa (fun W hW => ratio_Zero b0 v r W hW)
 have HR := aa h
 obtain ⟨A, c, B, d, rfl, h1, h2, h3, h4⟩ := h
 obtain ⟨hs1, hs2⟩ := hs
 have hb1 : Hd (Below w.heap.size w (w.alloc (Obj.cells #[.bool r.neg, .slice A r.num.length c, .slice B r.den.length d] 64))) := ⟨(ag _ _).alloc (ae _) _⟩
 have k1 := aa (Bk.new_ w 64 #[.bool r.neg, .slice A r.num.length c, .slice B r.den.length d])
 cases hm : (natMay r.num && natMay r.den)
 ·have CG := aa (quot_Gcd_bad A B c d r.num r.den _ (h3.rd.up hb1.out) h1 (h4.rd.up hb1.out) h2 (by omega) (by omega) hm)
  have HM : Hd (ratMay r = false) := ⟨by unfold ratMay; rw [hm]; rfl⟩
  clear hm h3 h4
  go_enter Tryz.func169, Tryz.ntmps169
  go_wp2_with fail
  refine CG.out.mono ?_
  rintro e w' ⟨rfl, rfl⟩
  go_wp2_with fail
  go_ret
  exact ⟨retBool HM.out.symm, hb1.out⟩
 ·rw [Bool.and_eq_true] at hm
  have CG := aa (quot_Gcd A B c d r.num r.den _ (h3.rd.up hb1.out) h1 (h4.rd.up hb1.out) h2 h3.u h4.u hm.1 hm.2)
  have HM := aa hm
  have HU := aa (af h3.u h4.u)
  clear hm h3 h4
  go_enter Tryz.func169, Tryz.ntmps169
  go_wp2_with fail
  refine CG.out.mono ?_
  rintro e w2 ⟨g, rfl, ho, hb⟩
  obtain ⟨A3, c3, rfl, hc3, _, hr3⟩ := ho.reads
  have hb2 : Hd (Below w.heap.size w w2) := ⟨hb1.out.trans (hb.mono hb1.out.size)⟩
  have k2 := aa (k1.out.up hb)
  have l0 : w2.cell? ⟨w.heap.size, 0, none⟩ = some (.bool r.neg) := by rw [k2.out.cell]; rfl
  have l1 : w2.cell? ⟨w.heap.size, 1, none⟩ = some (.slice A r.num.length c) := by rw [k2.out.cell]; rfl
  have l2 : w2.cell? ⟨w.heap.size, 2, none⟩ = some (.slice B r.den.length d) := by rw [k2.out.cell]; rfl
  have HR3 := aa hr3
  have hgl : (limbs (Nat.gcd (val r.num) (val r.den))).length ≤ 8 := gcd_len HU.out.1 HU.out.2 (natMay_len HM.out.1) (natMay_len HM.out.2)
  clear ho hb hr3 k1 hb1 CG
  by_cases hd0 : 0 < r.den.length
  ·have e1 : (0 : Int) < r.den.length := by omega
   have hb3 : Hd (Below w2.heap.size w2 (w2.alloc (Obj.cells #[.int .u64 1] 112))) := ⟨(ag _ _).alloc (ae _) _⟩
   have r1 : Hd (RdI (w2.alloc (.cells #[.int .u64 1] 112)) .u64 (some ⟨w2.heap.size, 0, none⟩) [1]) := ⟨by
    have := Rd.new_ w2 #[.int .u64 1] 112 1 1 rfl
    unfold RdI
    rw [show (w2.alloc (.cells #[.int .u64 1] 112)).heap.size = w2.heap.size + 1 by simp]
    exact this⟩
   have CC := aa (nat_Cmp A3 (some ⟨w2.heap.size, 0, none⟩) c3 1 (limbs (Nat.gcd (val r.num) (val r.den))) [1] _ (HR3.out.up hb3.out) hc3 (by omega) r1.out (ae _) (by simp) (limbs_u64 _) (U64.nil.cons (by omega) (by omega)))
   rw [val_limbs, show val [1] = 1 from rfl] at CC
   by_cases hg1 : Nat.gcd (val r.num) (val r.den) = 1
   ·rw [cmpN_eq hg1] at CC
    have HG := aa (af hd0 hg1)
    clear hd0 hg1 r1 HR3 hgl
    by_cases hn : r.neg = true
    ·rw [hn] at l0
     have HNG := aa hn
     by_cases hz : r.num.length = 0
     ·have HM2 : Hd (ratMay r = false) := ⟨by unfold ratMay; rw [hn, decide_eq_true hz]; simp⟩
      rw [decide_eq_true hz] at HZ
      clear hz
      go_wp2_with fail
      refine CC.out.mono ?_
      rintro e w4 ⟨rfl, hd4⟩
      have hb4 : Hd (Below w2.heap.size w2 w4) := ⟨hb3.out.trans (hd4.below.mono hb3.out.size)⟩
      have k4 := aa (k2.out.up hb4.out)
      have m0 : w4.cell? ⟨w.heap.size, 0, none⟩ = some (.bool r.neg) := by rw [k4.out.cell]; rfl
      have m1 : w4.cell? ⟨w.heap.size, 1, none⟩ = some (.slice A r.num.length c) := by rw [k4.out.cell]; rfl
      have m2 : w4.cell? ⟨w.heap.size, 2, none⟩ = some (.slice B r.den.length d) := by rw [k4.out.cell]; rfl
      rw [HNG.out] at m0
      clear hd4
      have CZ := aa (HZ.out _ (HR.out.up (hb2.out.trans (hb4.out.mono hb2.out.size))))
      rw [hn] at CZ
      go_wp2_with fail
      refine CZ.out.mono ?_
      rintro e w5 ⟨rfl, hb5⟩
      have hb5' : Hd (Below w.heap.size w w5) := ⟨(hb2.out.trans (hb4.out.mono hb2.out.size)).trans (hb5.mono (ah hb2.out.size hb4.out.size))⟩
      clear hb5
      go_wp2_with fail
      go_ret
      exact ⟨retBool HM2.out.symm, hb5'.out⟩
     ·have HM2 : Hd (ratMay r = true) := ⟨by unfold ratMay; rw [decide_eq_false hz, HM.out.1, HM.out.2, decide_eq_true HG.out.1, decide_eq_true HG.out.2]; simp⟩
      rw [decide_eq_false hz] at HZ
      clear hz
      go_wp2_with fail
      refine CC.out.mono ?_
      rintro e w4 ⟨rfl, hd4⟩
      have hb4 : Hd (Below w2.heap.size w2 w4) := ⟨hb3.out.trans (hd4.below.mono hb3.out.size)⟩
      have k4 := aa (k2.out.up hb4.out)
      have m0 : w4.cell? ⟨w.heap.size, 0, none⟩ = some (.bool r.neg) := by rw [k4.out.cell]; rfl
      have m1 : w4.cell? ⟨w.heap.size, 1, none⟩ = some (.slice A r.num.length c) := by rw [k4.out.cell]; rfl
      have m2 : w4.cell? ⟨w.heap.size, 2, none⟩ = some (.slice B r.den.length d) := by rw [k4.out.cell]; rfl
      rw [HNG.out] at m0
      clear hd4
      have CZ := aa (HZ.out _ (HR.out.up (hb2.out.trans (hb4.out.mono hb2.out.size))))
      rw [hn] at CZ
      go_wp2_with fail
      refine CZ.out.mono ?_
      rintro e w5 ⟨rfl, hb5⟩
      have hb5' : Hd (Below w.heap.size w w5) := ⟨(hb2.out.trans (hb4.out.mono hb2.out.size)).trans (hb5.mono (ah hb2.out.size hb4.out.size))⟩
      clear hb5
      go_wp2_with fail
      go_ret
      exact ⟨retBool HM2.out.symm, hb5'.out⟩
    ·have hn' : r.neg = false := by simpa using hn
     have HM2 : Hd (ratMay r = true) := ⟨by unfold ratMay; rw [hn', HM.out.1, HM.out.2, decide_eq_true HG.out.1, decide_eq_true HG.out.2]; simp⟩
     rw [hn'] at l0
     have HNG := aa hn'
     clear hn
     go_wp2_with fail
     refine CC.out.mono ?_
     rintro e w4 ⟨rfl, hd4⟩
     have hb4 : Hd (Below w2.heap.size w2 w4) := ⟨hb3.out.trans (hd4.below.mono hb3.out.size)⟩
     have k4 := aa (k2.out.up hb4.out)
     have m0 : w4.cell? ⟨w.heap.size, 0, none⟩ = some (.bool r.neg) := by rw [k4.out.cell]; rfl
     have m1 : w4.cell? ⟨w.heap.size, 1, none⟩ = some (.slice A r.num.length c) := by rw [k4.out.cell]; rfl
     have m2 : w4.cell? ⟨w.heap.size, 2, none⟩ = some (.slice B r.den.length d) := by rw [k4.out.cell]; rfl
     rw [HNG.out] at m0
     clear hd4
     go_wp2_with fail
     go_ret
     exact ⟨retBool HM2.out.symm, hb2.out.trans (hb4.out.mono hb2.out.size)⟩
   ·have HM2 : Hd (ratMay r = false) := ⟨by unfold ratMay; rw [decide_eq_false hg1]; simp⟩
    obtain ⟨cm, hcm, hcm0⟩ : ∃ cm, cmpN (Nat.gcd (val r.num) (val r.den)) 1 = cm ∧ cm ≠ 0 := ⟨_, rfl, by unfold cmpN; split; omega; split <;> omega⟩
    rw [hcm] at CC
    have e2 : (cm == 0) = false := by rw [beq_eq_false_iff_ne]; exact hcm0
    clear hd0 hg1 r1 HR3 hgl hcm hcm0
    go_wp2_with fail
    refine CC.out.mono ?_
    rintro e w4 ⟨rfl, hd4⟩
    have hb4 : Hd (Below w2.heap.size w2 w4) := ⟨hb3.out.trans (hd4.below.mono hb3.out.size)⟩
    have k4 := aa (k2.out.up hb4.out)
    have m0 : w4.cell? ⟨w.heap.size, 0, none⟩ = some (.bool r.neg) := by rw [k4.out.cell]; rfl
    have m1 : w4.cell? ⟨w.heap.size, 1, none⟩ = some (.slice A r.num.length c) := by rw [k4.out.cell]; rfl
    have m2 : w4.cell? ⟨w.heap.size, 2, none⟩ = some (.slice B r.den.length d) := by rw [k4.out.cell]; rfl
    skip
    clear hd4
    go_wp2_with fail
    go_ret
    exact ⟨retBool HM2.out.symm, hb2.out.trans (hb4.out.mono hb2.out.size)⟩
  ·have e1 : ¬ (0 : Int) < r.den.length := by omega
   have HM2 : Hd (ratMay r = false) := ⟨by unfold ratMay; rw [decide_eq_false hd0]; simp⟩
   clear hd0
   go_wp2_with fail
   go_ret
   exact ⟨retBool HM2.out.symm, hb2.out⟩
def plusD (neg : Bool) (x : Nat) (too : Bool) (y : Nat) : Bool × Nat := if neg = too then (neg, x + y) else if x < y then (too, y - x) else (neg, x - y)
theorem ratio_plus (A B : Option Addr) (c d : Nat) (l m : List Int) (neg too : Bool) (w : World) (h : RdI w .u64 A l) (hn : l.length ≤ c) (h' : RdI w .u64 B m) (hn' : m.length ≤ d) (hu : U64 l) (hu' : U64 m) (h9 : l.length ≤ 10000000) (h9' : m.length ≤ 10000000) :
    Calls Tryz.prog 282 #[.bool neg, .slice A l.length c, .bool too, .slice B m.length d] w fun e w' => ∃ v, e = .returned (.tuple #[.bool (plusD neg (val l) too (val m)).1, v]) ∧
     OwnI w' w.heap.size 112 .u64 v (limbs (plusD neg (val l) too (val m)).2) ∧ Below w.heap.size w w' := by
 by_cases hs : neg = too
 ·have e1 : (neg == too) = true := by rw [beq_iff_eq]; exact hs
  have CA := aa (limb_Add A B c d l m w h hn (by omega) h' hn' (by omega) hu hu')
  have HP : Hd (plusD neg (val l) too (val m) = (neg, val l + val m)) := ⟨by unfold plusD; rw [if_pos hs]⟩
  rw [HP.out]
  clear hs h h'
  go_enter Tryz.func282, Tryz.ntmps282
  go_wp2_with fail
  refine CA.out.mono ?_
  rintro e w2 ⟨v, rfl, ho, hb⟩
  have HO := aa ho
  have HB := aa hb
  clear ho hb
  go_wp2_with fail
  go_ret2
  exact ⟨_, rfl, HO.out, HB.out⟩
 ·have e1 : (neg == too) = false := by rw [beq_eq_false_iff_ne]; exact hs
  have CC := aa (limb_Cmp A B c d l m w h hn (by omega) h' hn' (by omega) hu hu')
  by_cases hlt : val l < val m
  ·rw [cmpN_lt hlt] at CC
   have HP : Hd (plusD neg (val l) too (val m) = (too, val m - val l)) := ⟨by unfold plusD; rw [if_neg hs, if_pos hlt]⟩
   rw [HP.out]
   have CS := aa (fun n => limb_Sub_ge B A d c m l (w.drewN n) h' hn' (by omega) h hn (by omega) hu' hu (by omega))
   clear hs h h' hlt
   go_enter Tryz.func282, Tryz.ntmps282
   go_wp2_with fail
   refine CC.out.mono ?_
   rintro e w2 ⟨rfl, ⟨nq, rfl⟩⟩
   go_wp2_with fail
   refine (CS.out nq).mono ?_
   rintro e w2 ⟨v, rfl, ho, hb⟩
   have HO := aa ho
   have HB := aa hb
   clear ho hb
   go_wp2_with fail
   go_ret2
   exact ⟨_, rfl, HO.out, (Dr.below ⟨nq, rfl⟩).trans HB.out⟩
  ·obtain ⟨cm, hcm, hcm0⟩ : ∃ cm, cmpN (val l) (val m) = cm ∧ decide (cm < 0) = false := ⟨_, rfl, by apply decide_eq_false; unfold cmpN; split; omega; split <;> omega⟩
   rw [hcm] at CC
   have HP : Hd (plusD neg (val l) too (val m) = (neg, val l - val m)) := ⟨by unfold plusD; rw [if_neg hs, if_neg hlt]⟩
   rw [HP.out]
   have CS := aa (fun n => limb_Sub_ge A B c d l m (w.drewN n) h hn (by omega) h' hn' (by omega) hu hu' (by omega))
   clear hs h h' hlt hcm
   go_enter Tryz.func282, Tryz.ntmps282
   go_wp2_with fail
   refine CC.out.mono ?_
   rintro e w2 ⟨rfl, ⟨nq, rfl⟩⟩
   go_wp2_with fail
   refine (CS.out nq).mono ?_
   rintro e w2 ⟨v, rfl, ho, hb⟩
   have HO := aa ho
   have HB := aa hb
   clear ho hb
   go_wp2_with fail
   go_ret2
   exact ⟨_, rfl, HO.out, (Dr.below ⟨nq, rfl⟩).trans HB.out⟩
def isStruct : Option TypeDesc → Bool
 | some (.struct _) => true
 | _ => false
theorem Tryz.stRat : isStruct (Tryz.prog.underlying 64) = true := by kernel_rfl
theorem Tryz.szRat : (Tryz.prog.info? 64).map (·.size) = some 3 := by kernel_rfl
theorem st_of {o : Option TypeDesc} (h : isStruct o = true) : ∃ f, o = some (.struct f) := by
 unfold isStruct at h
 split at h
 ·exact ⟨_, rfl⟩
 ·cases h
theorem res_rat {fn : Func} {p : Tmp} (h : fn.results = #[.cell p 64]) (tmps : Array Value) (w : World) (g : Nat) (cs : Array Value) (hp : tmps.getD p undef = .pointer (some ⟨g, 0, none⟩)) (hk : Bk w g 64 cs) (hc : cs.size = 3) :
    (results fn tmps).run Tryz.prog w = .ok (.agg cs) w := by
 obtain ⟨f, h1⟩ := st_of Tryz.stRat
 exact results_cell_row h tmps w g _ cs (0, 0) (.struct f) hp hk h1 rfl (by rw [hc]; exact Tryz.szRat)
theorem res_rat2 {fn : Func} {p u : Tmp} (h : fn.results = #[.cell p 64, .tmp u]) (tmps : Array Value) (w : World) (g : Nat) (cs : Array Value) (hp : tmps.getD p undef = .pointer (some ⟨g, 0, none⟩)) (hk : Bk w g 64 cs) (hc : cs.size = 3) :
    (results fn tmps).run Tryz.prog w = .ok (.tuple #[.agg cs, tmps.getD u undef]) w := by
 obtain ⟨f, h1⟩ := st_of Tryz.stRat
 rw [results_cell_tmp h, hp]
 have hl := run_loadVar_row (P := Tryz.prog) w g 64 64 cs (0, 0) (.struct f) hk h1 rfl (by rw [hc]; exact Tryz.szRat)
 simp [asAddr, hl, Result.andThen]
theorem _root_.Go.World.grownBy.set {w w1 : World} {g : Nat} (h : w.grownBy w1 (some g)) (i : Nat) (u : Value) : w.grownBy (w1.setCell ⟨g, i, none⟩ u) (some g) :=
 ⟨h.os, h.tape, h.output, by rw [World.size_setCell]; exact h.size, fun k hk hne => (Below.heap_setCell w1 ⟨g, i, none⟩ u k (fun e => hne (by rw [e]))).trans (h.block k hk hne)⟩
def makeD (neg : Bool) (l m : List Int) : Int × RatD :=
 if (natMay l && natMay m) = false then (1, zeroD) else if m.length = 0 then (30, zeroD)
 else (0, ⟨neg && decide (val l / Nat.gcd (val l) (val m) ≠ 0), limbs (val l / Nat.gcd (val l) (val m)), limbs (val m / Nat.gcd (val l) (val m))⟩)
theorem ratio_Make_bad (neg : Bool) (A B : Option Addr) (c d : Nat) (l m : List Int) (w : World) (h : RdI w .u64 A l) (hn : l.length ≤ c) (h' : RdI w .u64 B m) (hn' : m.length ≤ d) (h9 : l.length ≤ 10000000) (h9' : m.length ≤ 10000000)
    (hm : (natMay l && natMay m) = false) :
    Calls Tryz.prog 173 #[.bool neg, .slice A l.length c, .slice B m.length d] w fun e w' => e = .returned (.tuple #[.agg #[.bool false, .slice none 0 0, .slice none 0 0], .int .i64 1]) ∧ Below w.heap.size w w' := by
 have hb1 : Hd (Below w.heap.size w (w.alloc (Obj.cells #[.bool false, .slice none 0 0, .slice none 0 0] 64))) := ⟨(ag _ _).alloc (ae _) _⟩
 have CG := aa (quot_Gcd_bad A B c d l m _ (h.up hb1.out) hn (h'.up hb1.out) hn' (by omega) (by omega) hm)
 clear h h' hm
 go_enter Tryz.func173, Tryz.ntmps173
 go_wp2_with fail
 refine CG.out.mono ?_
 rintro e w2 ⟨rfl, rfl⟩
 go_wp2_with fail
 refine bodyPost_ret (res_rat2 rfl _ _ w.heap.size #[.bool false, .slice none 0 0, .slice none 0 0] rfl (Bk.new_ _ _ _) rfl) rfl ?_
 exact ⟨rfl, hb1.out⟩
theorem ratio_Make_zero (neg : Bool) (A B : Option Addr) (c d : Nat) (l m : List Int) (w : World) (h : RdI w .u64 A l) (hn : l.length ≤ c) (h' : RdI w .u64 B m) (hn' : m.length ≤ d) (hu : U64 l) (hu' : U64 m)
    (hm : natMay l = true) (hm' : natMay m = true) (h0 : m.length = 0) :
    Calls Tryz.prog 173 #[.bool neg, .slice A l.length c, .slice B m.length d] w fun e w' => e = .returned (.tuple #[.agg #[.bool false, .slice none 0 0, .slice none 0 0], .int .i64 30]) ∧ Below w.heap.size w w' := by
 have hb1 : Hd (Below w.heap.size w (w.alloc (Obj.cells #[.bool false, .slice none 0 0, .slice none 0 0] 64))) := ⟨(ag _ _).alloc (ae _) _⟩
 have CG := aa (quot_Gcd A B c d l m _ (h.up hb1.out) hn (h'.up hb1.out) hn' hu hu' hm hm')
 have k1 := aa (Bk.new_ w 64 #[.bool false, .slice none 0 0, .slice none 0 0])
 have e1 : ((m.length : Int) == 0) = true := by rw [beq_iff_eq]; omega
 clear h h' hm hu hu' hm' h0
 go_enter Tryz.func173, Tryz.ntmps173
 go_wp2_with fail
 refine CG.out.mono ?_
 rintro e w2 ⟨v, rfl, ho, hb⟩
 have k2 := aa (k1.out.up hb)
 have hb2 : Hd (Below w.heap.size w w2) := ⟨hb1.out.trans (hb.mono hb1.out.size)⟩
 have l0 : w2.cell? ⟨w.heap.size, 0, none⟩ = some (.bool false) := by rw [k2.out.cell]; rfl
 have l1 : w2.cell? ⟨w.heap.size, 1, none⟩ = some (.slice none 0 0) := by rw [k2.out.cell]; rfl
 have l2 : w2.cell? ⟨w.heap.size, 2, none⟩ = some (.slice none 0 0) := by rw [k2.out.cell]; rfl
 have f0 := fun i => k2.out.froz i
 clear ho hb k1 hb1 CG
 go_wp2_with fail
 refine bodyPost_ret (res_rat2 rfl _ _ w.heap.size #[.bool false, .slice none 0 0, .slice none 0 0] rfl (k2.out.set3 _ _ _) rfl) rfl ?_
 exact ⟨rfl, ((hb2.out.setCell (ae _) _).setCell (ae _) _).setCell (ae _) _⟩
theorem ratio_Make_ok (b0 : Nat) (neg : Bool) (A B : Option Addr) (c d : Nat) (l m : List Int) (w : World) (hb0 : b0 ≤ w.heap.size) (h : RdI w .u64 A l) (hn : l.length ≤ c) (h' : RdI w .u64 B m) (hn' : m.length ≤ d) (hu : U64 l) (hu' : U64 m)
    (hm : natMay l = true) (hm' : natMay m = true) (h0 : 0 < m.length) :
    Calls Tryz.prog 173 #[.bool neg, .slice A l.length c, .slice B m.length d] w fun e w' => ∃ v, e = .returned (.tuple #[v, .int .i64 0]) ∧
     RRat w' b0 v ⟨neg && decide (val l / Nat.gcd (val l) (val m) ≠ 0), limbs (val l / Nat.gcd (val l) (val m)), limbs (val m / Nat.gcd (val l) (val m))⟩ ∧ Below w.heap.size w w' := by
 have hb1 : Hd (Below w.heap.size w (w.alloc (Obj.cells #[.bool false, .slice none 0 0, .slice none 0 0] 64))) := ⟨(ag _ _).alloc (ae _) _⟩
 have CG := aa (quot_Gcd A B c d l m _ (h.up hb1.out) hn (h'.up hb1.out) hn' hu hu' hm hm')
 have k1 := aa (Bk.new_ w 64 #[.bool false, .slice none 0 0, .slice none 0 0])
 have e1 : ((m.length : Int) == 0) = false := by rw [beq_eq_false_iff_ne]; omega
 have hpos := natMay_pos hm' hu' h0
 have hgp : 0 < Nat.gcd (val l) (val m) := Nat.gcd_pos_of_pos_right _ hpos
 have hgl := gcd_len hu hu' (natMay_len hm) (natMay_len hm')
 have HG : Hd (natMay (limbs (Nat.gcd (val l) (val m))) = true ∧ 0 < (limbs (Nat.gcd (val l) (val m))).length) := ⟨limbs_may hgl, by
  rcases Nat.eq_zero_or_pos (limbs (Nat.gcd (val l) (val m))).length with h | h
  ·have := limbs_nil.1 (List.eq_nil_of_length_eq_zero h); omega
  ·exact h⟩
 have HGV := aa (val_limbs (Nat.gcd (val l) (val m)))
 obtain ⟨G, hG⟩ : ∃ G, Nat.gcd (val l) (val m) = G := ⟨_, rfl⟩
 rw [hG] at CG HG HGV hgp ⊢
 have D1 := aa (fun W Ag cg (hW : Below w.heap.size w W) (hg : RdI W .u64 Ag (limbs G)) (hc : (limbs G).length ≤ cg) => quot_Div A Ag c cg l (limbs G) W (h.up hW) hn hg hc hu (limbs_u64 _) hm HG.out.1 HG.out.2)
 have D2 := aa (fun W Ag cg (hW : Below w.heap.size w W) (hg : RdI W .u64 Ag (limbs G)) (hc : (limbs G).length ≤ cg) => quot_Div B Ag d cg m (limbs G) W (h'.up hW) hn' hg hc hu' (limbs_u64 _) hm' HG.out.1 HG.out.2)
 rw [HGV.out] at D1 D2
 clear h h' hm hu hu' hm' h0 hpos hgl HG HGV hG
 go_enter Tryz.func173, Tryz.ntmps173
 go_wp2_with fail
 refine CG.out.mono ?_
 rintro e w2 ⟨v, rfl, ho, hb⟩
 have k2 := aa (k1.out.up hb)
 have hb2 : Hd (Below w.heap.size w w2) := ⟨hb1.out.trans (hb.mono hb1.out.size)⟩
 have l0 : w2.cell? ⟨w.heap.size, 0, none⟩ = some (.bool false) := by rw [k2.out.cell]; rfl
 have l1 : w2.cell? ⟨w.heap.size, 1, none⟩ = some (.slice none 0 0) := by rw [k2.out.cell]; rfl
 have l2 : w2.cell? ⟨w.heap.size, 2, none⟩ = some (.slice none 0 0) := by rw [k2.out.cell]; rfl
 obtain ⟨Ag, cg, rfl, hcg, _, hrg⟩ := ho.reads
 have HOG := aa (ho.low hb1.out.size)
 have C3 := aa (D1.out w2 Ag cg hb2.out hrg hcg)
 clear ho hb k1 hb1 CG D1 hrg
 go_wp2_with fail
 refine C3.out.mono ?_
 rintro e w3 ⟨q1, u1, rfl, ho, _, hb⟩
 obtain ⟨A1, c1, rfl, hc1, _, _⟩ := ho.reads
 have k3 := aa (k2.out.up hb)
 have hb3 : Hd (Below w.heap.size w w3) := ⟨hb2.out.trans (hb.mono hb2.out.size)⟩
 have hog3 := HOG.out.below hb
 have l31 : w3.cell? ⟨w.heap.size, 1, none⟩ = some (.slice none 0 0) := by rw [k3.out.cell]; rfl
 have f31 : w3.frozen? ⟨w.heap.size, 1, none⟩ = false := k3.out.froz 1
 have k3s := aa (k3.out.set_ 1 (.slice A1 (limbs (val l / G)).length c1))
 have hb3s : Hd (Below w.heap.size w (w3.setCell ⟨w.heap.size, 1, none⟩ (.slice A1 (limbs (val l / G)).length c1))) := ⟨hb3.out.setCell (ae _) _⟩
 have hog3s := hog3.far (p := ⟨w.heap.size, 1, none⟩) (own_ne hog3 k3.out (by decide)) (.slice A1 (limbs (val l / G)).length c1)
 have hq1s := aa ((ho.low hb2.out.size).far (p := ⟨w.heap.size, 1, none⟩) (own_ne (ho.low hb2.out.size) k3.out (by decide)) (.slice A1 (limbs (val l / G)).length c1))
 obtain ⟨Ag', cg', hv, hcg', _, hrg⟩ := hog3s.reads
 injection hv with hv1 hv2 hv3
 subst hv1 hv3
 have C4 := aa (D2.out _ Ag cg hb3s.out hrg hcg)
 clear ho hb C3 D2 hrg hog3 hog3s l0 l1 l2 k2 hv2 hcg' HOG
 go_wp2_with fail
 refine C4.out.mono ?_
 rintro e w4 ⟨q2, u2, rfl, ho, _, hb⟩
 obtain ⟨A2, c2, rfl, hc2, _, _⟩ := ho.reads
 have k4 : Hd (Bk w4 w.heap.size 64 #[.bool false, .slice A1 (limbs (val l / G)).length c1, .slice none 0 0]) := ⟨k3s.out.up hb⟩
 have hb4 : Hd (Below w.heap.size w w4) := ⟨hb3s.out.trans (hb.mono hb3s.out.size)⟩
 have hq14 := hq1s.out.below hb
 have hq24 := ho.low hb3s.out.size
 have l42 : w4.cell? ⟨w.heap.size, 2, none⟩ = some (.slice none 0 0) := by rw [k4.out.cell]; rfl
 have f42 : w4.frozen? ⟨w.heap.size, 2, none⟩ = false := k4.out.froz 2
 have l41 : w4.cell? ⟨w.heap.size, 1, none⟩ = some (.slice A1 (limbs (val l / G)).length c1) := by rw [k4.out.cell]; rfl
 have l40 : w4.cell? ⟨w.heap.size, 0, none⟩ = some (.bool false) := by rw [k4.out.cell]; rfl
 have f41 : w4.frozen? ⟨w.heap.size, 1, none⟩ = false := k4.out.froz 1
 have f40 : w4.frozen? ⟨w.heap.size, 0, none⟩ = false := k4.out.froz 0
 obtain ⟨rr1, _, rc1⟩ := RRow.of_own hq14 (limbs_u64 _) b0
 obtain ⟨rr2, _, rc2⟩ := RRow.of_own hq24 (limbs_u64 _) b0
 have R1 := aa rr1
 have R2 := aa rr2
 clear ho hb C4 hq14 hq24 hq1s rr1 rr2 l31 f31 k3 k3s
 have SZ : Hd (∀ n : Nat, decide ((limbs n).length = 0) = decide (n = 0)) := ⟨fun n => by
  congr 1
  rw [List.length_eq_zero_iff, limbs_nil]⟩
 have k5 : Hd (Bk (w4.setCell ⟨w.heap.size, 2, none⟩ (.slice A2 (limbs (val m / G)).length c2)) w.heap.size 64 #[.bool false, .slice A1 (limbs (val l / G)).length c1, .slice A2 (limbs (val m / G)).length c2]) := ⟨k4.out.set_ 2 _⟩
 have hg5 := aa (set_grown w4 ⟨w.heap.size, 2, none⟩ (.slice A2 (limbs (val m / G)).length c2))
 have hb5 : Hd (Below w.heap.size w (w4.setCell ⟨w.heap.size, 2, none⟩ (.slice A2 (limbs (val m / G)).length c2))) := ⟨hb4.out.setCell (ae _) _⟩
 have RC := aa (af rc1 rc2)
 have HB0 := aa hb0
 have ne1 : Hd (∀ g, some w.heap.size = some g → b0 ≤ g ∧ ∃ t cs, Bk w4 g t cs ∧ t ≠ 112) := ⟨fun g e => by injection e with e; subst e; exact ⟨hb0, _, _, k4.out, by decide⟩⟩
 clear rc1 rc2 hb0
 cases neg
 ·go_wp2_with fail
  refine bodyPost_ret (res_rat2 rfl _ _ w.heap.size #[.bool false, .slice A1 (limbs (val l / G)).length c1, .slice A2 (limbs (val m / G)).length c2] rfl ?k1 rfl) rfl ?_
  case k1 => exact (show Bk _ _ _ #[_, _, _] from k5.out.set_ 0 _).set3 _ _ _
  refine ⟨_, rfl, ⟨A1, c1, A2, c2, rfl, RC.out.1, RC.out.2, R1.out.grown ((((hg5.out.set _ _).set _ _).set _ _).set _ _) ne1.out, R2.out.grown ((((hg5.out.set _ _).set _ _).set _ _).set _ _) ne1.out⟩, ?_⟩
  exact (((hb5.out.setCell (ae _) _).setCell (ae _) _).setCell (ae _) _).setCell (ae _) _
 ·have CZ := aa (ratio_Zero b0 (.agg #[.bool false, .slice A1 (limbs (val l / G)).length c1, .slice A2 (limbs (val m / G)).length c2]) ⟨false, limbs (val l / G), limbs (val m / G)⟩ _ ⟨A1, c1, A2, c2, rfl, RC.out.1, RC.out.2, R1.out.grown hg5.out ne1.out, R2.out.grown hg5.out ne1.out⟩)
  simp only [SZ.out] at CZ
  obtain ⟨z, hz⟩ : ∃ z, decide (val l / G = 0) = z := ⟨_, rfl⟩
  rw [hz] at CZ
  have HZ : Hd ((!z) = (true && decide (val l / G ≠ 0))) := ⟨by rw [← hz, Bool.true_and]; exact decide_not.symm⟩
  clear hz
  go_wp2_with fail
  refine CZ.out.mono ?_
  rintro e w6 ⟨rfl, hb⟩
  have k6 := aa (k5.out.up hb)
  have hb6 : Hd (Below w.heap.size w w6) := ⟨hb5.out.trans (hb.mono hb5.out.size)⟩
  have R16 := aa ((R1.out.grown hg5.out ne1.out).up hb)
  have R26 := aa ((R2.out.grown hg5.out ne1.out).up hb)
  have l60 : w6.cell? ⟨w.heap.size, 0, none⟩ = some (.bool false) := by rw [k6.out.cell]; rfl
  have l61 : w6.cell? ⟨w.heap.size, 1, none⟩ = some (.slice A1 (limbs (val l / G)).length c1) := by rw [k6.out.cell]; rfl
  have l62 : w6.cell? ⟨w.heap.size, 2, none⟩ = some (.slice A2 (limbs (val m / G)).length c2) := by rw [k6.out.cell]; rfl
  have f60 : w6.frozen? ⟨w.heap.size, 0, none⟩ = false := k6.out.froz 0
  have f61 : w6.frozen? ⟨w.heap.size, 1, none⟩ = false := k6.out.froz 1
  have f62 : w6.frozen? ⟨w.heap.size, 2, none⟩ = false := k6.out.froz 2
  have hg6 := aa (set_grown w6 ⟨w.heap.size, 0, none⟩ (.bool !z))
  have ne6 : Hd (∀ g, some w.heap.size = some g → b0 ≤ g ∧ ∃ t cs, Bk w6 g t cs ∧ t ≠ 112) := ⟨fun g e => by injection e with e; subst e; exact ⟨HB0.out, _, _, k6.out, by decide⟩⟩
  clear hb
  go_wp2_with fail
  refine bodyPost_ret (res_rat2 rfl _ _ w.heap.size #[.bool !z, .slice A1 (limbs (val l / G)).length c1, .slice A2 (limbs (val m / G)).length c2] rfl ?k1 rfl) rfl ?_
  case k1 => exact (show Bk _ _ _ #[_, _, _] from k6.out.set_ 0 _).set3 _ _ _
  rw [← HZ.out]
  refine ⟨_, rfl, ⟨A1, c1, A2, c2, rfl, RC.out.1, RC.out.2, R16.out.grown (((hg6.out.set _ _).set _ _).set _ _) ne6.out, R26.out.grown (((hg6.out.set _ _).set _ _).set _ _) ne6.out⟩, ?_⟩
  exact ((((hb6.out.setCell (ae _) _).setCell (ae _) _).setCell (ae _) _)).setCell (ae _) _
theorem ratio_Make (b0 : Nat) (neg : Bool) (A B : Option Addr) (c d : Nat) (l m : List Int) (w : World) (hb0 : b0 ≤ w.heap.size) (h : RdI w .u64 A l) (hn : l.length ≤ c) (h' : RdI w .u64 B m) (hn' : m.length ≤ d) (hu : U64 l) (hu' : U64 m) (h9 : l.length ≤ 10000000) (h9' : m.length ≤ 10000000) :
    Calls Tryz.prog 173 #[.bool neg, .slice A l.length c, .slice B m.length d] w fun e w' => ∃ v, e = .returned (.tuple #[v, .int .i64 (makeD neg l m).1]) ∧ RRat w' b0 v (makeD neg l m).2 ∧ Below w.heap.size w w' := by
 unfold makeD
 by_cases h1 : (natMay l && natMay m) = false
 ·rw [if_pos h1]
  refine (ratio_Make_bad neg A B c d l m w h hn h' hn' h9 h9' h1).mono ?_
  rintro e w' ⟨rfl, hb⟩
  exact ⟨_, rfl, RRat.zero _ _, hb⟩
 ·rw [if_neg h1]
  have h2 : natMay l = true ∧ natMay m = true := by simpa using h1
  by_cases h3 : m.length = 0
  ·rw [if_pos h3]
   refine (ratio_Make_zero neg A B c d l m w h hn h' hn' hu hu' h2.1 h2.2 h3).mono ?_
   rintro e w' ⟨rfl, hb⟩
   exact ⟨_, rfl, RRat.zero _ _, hb⟩
  ·rw [if_neg h3]
   exact ratio_Make_ok b0 neg A B c d l m w hb0 h hn h' hn' hu hu' h2.1 h2.2 (by omega)
structure Bx3 (S g1 g2 g3 : Nat) (w0 w : World) (a0 a1 a2 b0 b1 b2 c0 c1 c2 : Value) : Prop where
 below : Below S w0 w
 s1 : S ≤ g1
 s2 : S ≤ g2
 s3 : S ≤ g3
 n12 : g1 ≠ g2
 n13 : g1 ≠ g3
 n23 : g2 ≠ g3
 k1 : Bk w g1 64 #[a0, a1, a2]
 k2 : Bk w g2 64 #[b0, b1, b2]
 k3 : Bk w g3 64 #[c0, c1, c2]
section
variable {S g1 g2 g3 : Nat} {w0 w w' : World} {a0 a1 a2 b0 b1 b2 c0 c1 c2 : Value}
theorem Bx3.up (h : Bx3 S g1 g2 g3 w0 w a0 a1 a2 b0 b1 b2 c0 c1 c2) (hb : Below w.heap.size w w') : Bx3 S g1 g2 g3 w0 w' a0 a1 a2 b0 b1 b2 c0 c1 c2 :=
 ⟨h.below.trans (hb.mono (ah h.s1 (Nat.le_of_lt h.k1.lt))), h.s1, h.s2, h.s3, h.n12, h.n13, h.n23, h.k1.up hb, h.k2.up hb, h.k3.up hb⟩
theorem Bx3.mk3 (w : World) (a0 a1 a2 b0 b1 b2 c0 c1 c2 : Value) : Bx3 w.heap.size w.heap.size (w.heap.size + 1) (w.heap.size + 1 + 1) w (((w.alloc (Obj.cells #[a0, a1, a2] 64)).alloc (Obj.cells #[b0, b1, b2] 64)).alloc (Obj.cells #[c0, c1, c2] 64)) a0 a1 a2 b0 b1 b2 c0 c1 c2 := by
 refine ⟨(((ag _ _).alloc (ae _) _).alloc (by simp) _).alloc (by simp; omega) _, ae _, by omega, by omega, by omega, by omega, by omega, ((Bk.new_ _ _ _).al _).al _, ?_, ?_⟩
 ·have := (Bk.new_ (w.alloc (Obj.cells #[a0, a1, a2] 64)) 64 #[b0, b1, b2]).al (Obj.cells #[c0, c1, c2] 64)
  simpa using this
 ·have := Bk.new_ ((w.alloc (Obj.cells #[a0, a1, a2] 64)).alloc (Obj.cells #[b0, b1, b2] 64)) 64 #[c0, c1, c2]
  simpa using this
theorem Bx3.dn (h : Bx3 S g1 g2 g3 w0 w a0 a1 a2 b0 b1 b2 c0 c1 c2) (n : Nat) : Bx3 S g1 g2 g3 w0 (w.drewN n) a0 a1 a2 b0 b1 b2 c0 c1 c2 := ⟨Below.dn h.below n, h.s1, h.s2, h.s3, h.n12, h.n13, h.n23, h.k1, h.k2, h.k3⟩
theorem Bx3.done (h : Bx3 S g1 g2 g3 w0 w a0 a1 a2 b0 b1 b2 c0 c1 c2) (x y z : Value) : Bk (((w.setCell ⟨g3, 0, none⟩ x).setCell ⟨g3, 1, none⟩ y).setCell ⟨g3, 2, none⟩ z) g3 64 #[x, y, z] ∧
    Below S w0 (((w.setCell ⟨g3, 0, none⟩ x).setCell ⟨g3, 1, none⟩ y).setCell ⟨g3, 2, none⟩ z) ∧ ∀ b r v, b ≤ S → RRat w b v r → RRat (((w.setCell ⟨g3, 0, none⟩ x).setCell ⟨g3, 1, none⟩ y).setCell ⟨g3, 2, none⟩ z) b v r :=
 ⟨h.k3.set3 x y z, ((h.below.setCell h.s3 _).setCell h.s3 _).setCell h.s3 _, fun b r v hb hr => hr.grown (((set_grown w ⟨g3, 0, none⟩ x).set _ _).set _ _) (fun g e => by
  injection e with e; subst e; exact ⟨ah hb h.s3, _, _, h.k3, by decide⟩)⟩
end
theorem mul_len {l m : List Int} (hl : U64 l) (hm : U64 m) (h1 : l.length ≤ 8) (h2 : m.length ≤ 8) : (limbs (val l * val m)).length ≤ 16 := by
 rw [limbs_len]
 have e1 : val l < 18446744073709551616 ^ 8 := Nat.lt_of_lt_of_le (val_lt hl) (Nat.pow_le_pow_right (by decide) h1)
 have e2 : val m < 18446744073709551616 ^ 8 := Nat.lt_of_lt_of_le (val_lt hm) (Nat.pow_le_pow_right (by decide) h2)
 rw [show (18446744073709551616 : Nat) ^ 16 = 18446744073709551616 ^ 8 * 18446744073709551616 ^ 8 by rw [← Nat.pow_add]]
 exact Nat.mul_lt_mul_of_lt_of_le e1 (Nat.le_of_lt e2) (Nat.pow_pos (by decide))
theorem rows_new {w : World} {rs : List (List Int)} {cs : List Value} (h : ∀ (j : Nat) (r : List Int), rs[j]? = some r → ∃ a c, cs[j]? = some (.slice a r.length c) ∧ r.length ≤ c ∧ RdI w .u64 a r) (hl : cs.length = rs.length) :
    RdRows (w.alloc (.cells cs.toArray 61)) (some ⟨w.heap.size, 0, none⟩) rs := by
 refine ⟨cs, ?_, fun j r hj => ?_⟩
 ·have := Rd.new_ w cs.toArray 61 rs.length 1 (by simp [hl])
  rw [show (w.alloc (.cells cs.toArray 61)).heap.size = w.heap.size + 1 by simp]
  exact this
 ·obtain ⟨a, c, e, h1, h2⟩ := h j r hj
  exact ⟨a, c, e, h1, h2.up ((ag _ _).alloc (ae _) _)⟩
theorem isBig_not {rs : List (List Int)} (h : isBig rs = false) {r : List Int} (hr : r ∈ rs) : r.length ≤ 8 := by
 unfold isBig at h
 rw [List.any_eq_false] at h
 have := h r hr
 simpa using this
def addD (r s : RatD) : Int × RatD :=
 if (ratMay r && ratMay s) = false then (1, zeroD)
 else if isBig [limbs (val r.num * val s.den), limbs (val s.num * val r.den), limbs (plusD r.neg (val r.num * val s.den) s.neg (val s.num * val r.den)).2, limbs (val r.den * val s.den)] then (21, zeroD)
 else makeD (plusD r.neg (val r.num * val s.den) s.neg (val s.num * val r.den)).1 (limbs (plusD r.neg (val r.num * val s.den) s.neg (val s.num * val r.den)).2) (limbs (val r.den * val s.den))
theorem ratio_Add (b0 : Nat) (v u : Value) (r s : RatD) (w : World) (hb0 : b0 ≤ w.heap.size) (h : RRat w b0 v r) (h' : RRat w b0 u s) (hr : r.short) (hs : s.short) :
    Calls Tryz.prog 237 #[v, u] w fun e w' => ∃ x, e = .returned (.tuple #[x, .int .i64 (addD r s).1]) ∧ RRat w' b0 x (addD r s).2 ∧ Below w.heap.size w w' := by
 obtain ⟨E, hE⟩ : ∃ E, addD r s = E := ⟨_, rfl⟩
 rw [hE]
 have HEQ := aa hE
 clear hE
 have M1 := aa (fun W hW => ratio_May b0 v r W hW hr)
 have M2 := aa (fun W hW => ratio_May b0 u s W hW hs)
 have X1 := aa (fun W hW hW' => ratio_crossed b0 v u r s W hW hW' hr hs)
 have HR := aa h
 have HS := aa h'
 have HB0 := aa hb0
 obtain ⟨A, c, B, d, rfl, h1, h2, h3, h4⟩ := h
 obtain ⟨A', c', B', d', rfl, h1', h2', h3', h4'⟩ := h'
 have HD1 := aa (af h4 (af h4' (af hr hs)))
 clear h3 h4 h3' h4' hb0 hr hs
 go_enter Tryz.func237, Tryz.ntmps237
 go_upto_region 1 with (fail)
 refine wp_gen (fun W => Bx3 w.heap.size w.heap.size (w.heap.size + 1) (w.heap.size + 1 + 1) w W (.bool r.neg) (.slice A r.num.length c) (.slice B r.den.length d) (.bool s.neg) (.slice A' s.num.length c') (.slice B' s.den.length d') (.bool false) (.slice none 0 0) (.slice none 0 0)) (Bx3.mk3 w _ _ _ _ _ _ _ _ _) ?_
 intro W BX
 generalize w.heap.size + 1 + 1 = g3 at BX ⊢
 generalize w.heap.size + 1 = g2 at BX ⊢
 obtain ⟨p0, p1, p2⟩ := BX.out.k1.three
 obtain ⟨p3, p4, p5⟩ := BX.out.k2.three
 obtain ⟨p6, p7, p8⟩ := BX.out.k3.three
 have fz := fun i => BX.out.k3.froz i
 have ML := aa (M1.out W (HR.out.up BX.out.below))
 cases hm1 : ratMay r
 ·rw [hm1] at ML
  have HE : Hd (addD r s = (1, zeroD)) := ⟨by unfold addD; rw [hm1]; rfl⟩
  go_wp2_with fail
  refine ML.out.mono ?_
  rintro e w2 ⟨rfl, hb⟩
  have BX2 := aa (BX.out.up hb)
  obtain ⟨p6, p7, p8⟩ := BX2.out.k3.three
  have fz := fun i => BX2.out.k3.froz i
  go_wp2_with fail
  obtain ⟨d1, d2, d3⟩ := BX2.out.done (.bool false) (.slice none 0 0) (.slice none 0 0)
  refine bodyPost_ret (res_rat2 rfl _ _ g3 #[.bool false, .slice none 0 0, .slice none 0 0] rfl d1 rfl) rfl ?_
  have h5 := HEQ.out.symm.trans HE.out
  subst h5
  exact ⟨_, rfl, RRat.zero _ _, d2⟩
 ·rw [hm1] at ML
  cases hm2 : ratMay s
  ·have HE : Hd (addD r s = (1, zeroD)) := ⟨by unfold addD; rw [hm1, hm2]; rfl⟩
   go_wp2_with fail
   refine ML.out.mono ?_
   rintro e w2 ⟨rfl, hb⟩
   have BX2 := aa (BX.out.up hb)
   have ML2 := aa (M2.out w2 (HS.out.up BX2.out.below))
   rw [hm2] at ML2
   obtain ⟨p3, p4, p5⟩ := BX2.out.k2.three
   clear hb
   go_wp2_with fail
   refine ML2.out.mono ?_
   rintro e w3 ⟨rfl, hb⟩
   have BX3 := aa (BX2.out.up hb)
   obtain ⟨p6, p7, p8⟩ := BX3.out.k3.three
   have fz := fun i => BX3.out.k3.froz i
   go_wp2_with fail
   obtain ⟨d1, d2, d3⟩ := BX3.out.done (.bool false) (.slice none 0 0) (.slice none 0 0)
   refine bodyPost_ret (res_rat2 rfl _ _ g3 #[.bool false, .slice none 0 0, .slice none 0 0] rfl d1 rfl) rfl ?_
   have h5 := HEQ.out.symm.trans HE.out
   subst h5
   exact ⟨_, rfl, RRat.zero _ _, d2⟩
  ·have HM := aa (af hm1 hm2)
   clear hm1
   go_wp2_with fail
   refine ML.out.mono ?_
   rintro e w2 ⟨rfl, hb⟩
   have BX2 := aa (BX.out.up hb)
   have ML2 := aa (M2.out w2 (HS.out.up BX2.out.below))
   rw [hm2] at ML2
   obtain ⟨p3, p4, p5⟩ := BX2.out.k2.three
   clear hb hm2 p0 p1 p2 p6 p7 p8
   go_wp2_with fail
   refine ML2.out.mono ?_
   rintro e w3 ⟨rfl, hb⟩
   have BX3 := aa (BX2.out.up hb)
   obtain ⟨p0, p1, p2⟩ := BX3.out.k1.three
   obtain ⟨p3, p4, p5⟩ := BX3.out.k2.three
   have X2 := aa (X1.out w3 (HR.out.up BX3.out.below) (HS.out.up BX3.out.below))
   clear hb
   go_wp2_with fail
   refine X2.out.mono ?_
   rintro e w4 ⟨x, y, rfl, hox, hoy, hb⟩
   have BX4 := aa (BX3.out.up hb)
   obtain ⟨p0, p1, p2⟩ := BX4.out.k1.three
   obtain ⟨p3, p4, p5⟩ := BX4.out.k2.three
   obtain ⟨Ax, cx, rfl, hcx, _, hrx⟩ := hox.reads
   obtain ⟨Ay, cy, rfl, hcy, _, hry⟩ := hoy.reads
   obtain ⟨m1, m2, _, _, _⟩ := ratMay_of HM.out.1
   obtain ⟨m1', m2', _, _, _⟩ := ratMay_of HM.out.2
   have u1 : U64 r.num := by obtain ⟨_, _, _, _, _, _, _, h, _⟩ := HR.out; exact h.u
   have u1' : U64 s.num := by obtain ⟨_, _, _, _, _, _, _, h, _⟩ := HS.out; exact h.u
   have lx := mul_len u1 HD1.out.2.1.u (natMay_len m1) (natMay_len m2')
   have ly := mul_len u1' HD1.out.1.u (natMay_len m1') (natMay_len m2)
   have HE : Hd (addD r s = if isBig [limbs (val r.num * val s.den), limbs (val s.num * val r.den), limbs (plusD r.neg (val r.num * val s.den) s.neg (val s.num * val r.den)).2, limbs (val r.den * val s.den)] then (21, zeroD)
    else makeD (plusD r.neg (val r.num * val s.den) s.neg (val s.num * val r.den)).1 (limbs (plusD r.neg (val r.num * val s.den) s.neg (val s.num * val r.den)).2) (limbs (val r.den * val s.den))) := ⟨by unfold addD; rw [HM.out.1, HM.out.2]; rfl⟩
   have l9 : r.den.length ≤ 8 ∧ s.den.length ≤ 8 := ⟨natMay_len m2, natMay_len m2'⟩
   obtain ⟨X, hX⟩ : ∃ X, val r.num * val s.den = X := ⟨_, rfl⟩
   obtain ⟨Y, hY⟩ : ∃ Y, val s.num * val r.den = Y := ⟨_, rfl⟩
   obtain ⟨D, hD⟩ : ∃ D, val r.den * val s.den = D := ⟨_, rfl⟩
   rw [hX] at lx hcx hox hrx HE ⊢
   rw [hY] at ly hcy hoy hry HE ⊢
   have PC := aa (ratio_plus Ax Ay cx cy (limbs X) (limbs Y) r.neg s.neg w4 hrx hcx hry hcy (limbs_u64 _) (limbs_u64 _) (by omega) (by omega))
   rw [val_limbs, val_limbs] at PC
   obtain ⟨pn, ps, hp⟩ : ∃ pn ps, plusD r.neg X s.neg Y = (pn, ps) := ⟨_, _, rfl⟩
   rw [hD, hp] at HE
   rw [hp] at PC
   have HX4 := aa (af hox hoy)
   have HD := aa hD
   clear hb X2 X1 M1 M2 ML ML2 hox hoy hrx hry hX hY hD hp m1 m2 m1' m2' u1 u1'
   go_wp2_with fail
   refine PC.out.mono ?_
   rintro e w5 ⟨v, rfl, ho, hb⟩
   have BX5 := aa (BX4.out.up hb)
   obtain ⟨As, cs, rfl, hcs, _, _⟩ := ho.reads
   obtain ⟨p0, p1, p2⟩ := BX5.out.k1.three
   obtain ⟨p3, p4, p5⟩ := BX5.out.k2.three
   have HX5 := aa (af (HX4.out.1.below hb) (HX4.out.2.below hb))
   have HO5 := aa ho
   have CM := aa (limb_Mul B B' d d' r.den s.den w5 (HD1.out.1.rd.up BX5.out.below) h2 (by omega) (HD1.out.2.1.rd.up BX5.out.below) h2' (by omega) HD1.out.1.u HD1.out.2.1.u)
   rw [HD.out] at CM
   clear ho hb PC HX4
   go_wp2_with fail
   refine CM.out.mono ?_
   rintro e w6 ⟨v, rfl, ho, hb⟩
   have BX6 := aa (BX5.out.up hb)
   obtain ⟨Ad, cd, rfl, hcd, _, _⟩ := ho.reads
   have HX6 := aa (af (HX5.out.1.below hb) (HX5.out.2.below hb))
   have HS6 := aa (HO5.out.below hb)
   have HD6 := aa ho
   have hbb : Hd (Below w6.heap.size w6 (w6.alloc (Obj.cells #[.slice Ax (limbs X).length cx, .slice Ay (limbs Y).length cy, .slice As (limbs ps).length cs, .slice Ad (limbs D).length cd] 61))) := ⟨(ag _ _).alloc (ae _) _⟩
   have RW : Hd (RdRows (w6.alloc (Obj.cells #[.slice Ax (limbs X).length cx, .slice Ay (limbs Y).length cy, .slice As (limbs ps).length cs, .slice Ad (limbs D).length cd] 61)) (some ⟨w6.heap.size, 0, none⟩) [limbs X, limbs Y, limbs ps, limbs D]) := ⟨by
    refine rows_new (cs := [.slice Ax (limbs X).length cx, .slice Ay (limbs Y).length cy, .slice As (limbs ps).length cs, .slice Ad (limbs D).length cd]) (fun j r hj => ?_) rfl
    match j, hj with
    | 0, hj => injection hj with hj; subst hj; obtain ⟨_, _, e, _, _, hr⟩ := HX6.out.1.reads; injection e with e1 e2 e3; subst e1; exact ⟨_, _, rfl, hcx, hr⟩
    | 1, hj => injection hj with hj; subst hj; obtain ⟨_, _, e, _, _, hr⟩ := HX6.out.2.reads; injection e with e1 e2 e3; subst e1; exact ⟨_, _, rfl, hcy, hr⟩
    | 2, hj => injection hj with hj; subst hj; obtain ⟨_, _, e, _, _, hr⟩ := HS6.out.reads; injection e with e1 e2 e3; subst e1; exact ⟨_, _, rfl, hcs, hr⟩
    | 3, hj => injection hj with hj; subst hj; obtain ⟨_, _, e, _, _, hr⟩ := HD6.out.reads; injection e with e1 e2 e3; subst e1; exact ⟨_, _, rfl, hcd, hr⟩
    | n + 4, hj => cases hj⟩
   have CB := aa (ratio_big (some ⟨w6.heap.size, 0, none⟩) 4 [limbs X, limbs Y, limbs ps, limbs D] _ RW.out (ae _) (by simp))
   clear ho hb CM HX5 HO5
   cases hbig : isBig [limbs X, limbs Y, limbs ps, limbs D]
   ·rw [hbig] at CB HE
    have L1 := isBig_not hbig (r := limbs ps) (by simp)
    have L2 := isBig_not hbig (r := limbs D) (by simp)
    have BX7 := aa (BX6.out.up hbb.out)
    have CMk := aa (ratio_Make b0 pn As Ad cs cd (limbs ps) (limbs D) _ (ah (ah HB0.out BX6.out.below.size) hbb.out.size) (by obtain ⟨_, _, e, _, _, hr⟩ := (HS6.out.below hbb.out).reads; injection e with e1 e2 e3; subst e1; exact hr) hcs (by obtain ⟨_, _, e, _, _, hr⟩ := (HD6.out.below hbb.out).reads; injection e with e1 e2 e3; subst e1; exact hr) hcd (limbs_u64 _) (limbs_u64 _) (by omega) (by omega))
    have HE2 : Hd (makeD pn (limbs ps) (limbs D) = E) := ⟨by have := HEQ.out; rw [HE.out] at this; simpa using this⟩
    rw [HE2.out] at CMk
    clear hbig L1 L2
    go_wp2_with fail
    refine CB.out.mono ?_
    rintro e w7 ⟨rfl, rfl⟩
    go_wp2_with fail
    refine CMk.out.mono ?_
    rintro e w8 ⟨v, rfl, hr, hb⟩
    have BX8 := aa (BX7.out.up hb)
    obtain ⟨p6, p7, p8⟩ := BX8.out.k3.three
    have fz := fun i => BX8.out.k3.froz i
    have HR8 := aa hr
    obtain ⟨A9, c9, B9, d9, rfl, _, _, _, _⟩ := hr
    clear hb
    go_wp2_with fail
    obtain ⟨d1, d2, d3⟩ := BX8.out.done (.bool E.2.neg) (.slice A9 E.2.num.length c9) (.slice B9 E.2.den.length d9)
    refine bodyPost_ret (res_rat2 rfl _ _ g3 #[.bool E.2.neg, .slice A9 E.2.num.length c9, .slice B9 E.2.den.length d9] rfl d1 rfl) rfl ?_
    exact ⟨_, rfl, d3 _ _ _ HB0.out HR8.out, d2⟩
   ·rw [hbig] at CB HE
    have BX7 := aa (BX6.out.up hbb.out)
    obtain ⟨p6, p7, p8⟩ := BX7.out.k3.three
    have fz := fun i => BX7.out.k3.froz i
    clear hbig
    go_wp2_with fail
    refine CB.out.mono ?_
    rintro e w7 ⟨rfl, rfl⟩
    go_wp2_with fail
    obtain ⟨d1, d2, d3⟩ := BX7.out.done (.bool false) (.slice none 0 0) (.slice none 0 0)
    refine bodyPost_ret (res_rat2 rfl _ _ g3 #[.bool false, .slice none 0 0, .slice none 0 0] rfl d1 rfl) rfl ?_
    have h5 := HEQ.out.symm.trans HE.out
    simp only [if_pos] at h5
    subst h5
    exact ⟨_, rfl, RRat.zero _ _, d2⟩
end Go.Proofs.YtgjkgkgieeoalaaGreat
