/- Parts of the proof, joined: what each says stands at its head. -/
import Derived.Test.YtjanagclahkfdaaGreatM38
import Derived.Test.YtjanagclahkfdaaGreatM55
import Derived.Test.YtjanagclahkfdaaGreatM54
set_option linter.unusedVariables false
set_option linter.unusedSimpArgs false
set_option maxHeartbeats 24000000
set_option maxRecDepth 100000
namespace Go.Proofs.YtjanagclahkfdaaGreat
open Go.RowKit Go.PlainAid
def s13A : ByteArray := ⟨#[120, 94, 50, 32, 45, 32, 121]⟩
def s13B : ByteArray := ⟨#[120, 42, 121, 32, 45, 32, 49]⟩
def s13C : ByteArray := ⟨#[120, 32, 45, 32, 121, 94, 50]⟩
theorem parse13A : parseD 0 s13A = (0, [⟨ofD 1, ⟨2, 0, 0, 0⟩⟩, ⟨ofD (-1), ⟨0, 1, 0, 0⟩⟩]) := by kernel_rfl
theorem parse13B : parseD 0 s13B = (0, [⟨ofD 1, ⟨1, 1, 0, 0⟩⟩, ⟨ofD (-1), ⟨0, 0, 0, 0⟩⟩]) := by kernel_rfl
theorem parse13C : parseD 0 s13C = (0, [⟨ofD 1, ⟨1, 0, 0, 0⟩⟩, ⟨ofD (-1), ⟨0, 2, 0, 0⟩⟩]) := by kernel_rfl
theorem cross13 : crossD 0 [⟨ofD 1, ⟨2, 0, 0, 0⟩⟩, ⟨ofD (-1), ⟨0, 1, 0, 0⟩⟩] [⟨ofD 1, ⟨1, 1, 0, 0⟩⟩, ⟨ofD (-1), ⟨0, 0, 0, 0⟩⟩] = (0, [⟨ofD 1, ⟨1, 0, 0, 0⟩⟩, ⟨ofD (-1), ⟨0, 2, 0, 0⟩⟩]) := by kernel_rfl
theorem all13 : (allP 3).length = 3 := by kernel_rfl
theorem short13 {a b : Int} {m m' : MonD} (ha : a.natAbs < 18446744073709551616) (hb : b.natAbs < 18446744073709551616) : shortP [⟨ofD a, m⟩, ⟨ofD b, m'⟩] := ⟨by simp, fun s hs => by
 simp only [List.mem_cons, List.not_mem_nil, or_false] at hs
 rcases hs with rfl | rfl
 ·exact ofD_short a ha
 ·exact ofD_short b hb⟩
theorem same_13 {b0 : Nat} {A B : Option Addr} {c d : Nat} {X : List TermD} {w : World} (h : RPol w b0 A X) (hc : X.length ≤ c) (hs : shortP X) (h' : RPol w b0 B X) (hd : X.length ≤ d) :
    Calls Tryz.prog 20 #[.slice A X.length c, .slice B X.length d] w fun e w' => e = .returned (.bool true) ∧ Below w.heap.size w w' := by
 have := rpol_Same b0 A B c d X X w h hc hs h' hd hs
 rwa [decide_eq_true rfl] at this
theorem law13_text (b0 : Nat) (s : ByteArray) (w : World) (hb0 : b0 ≤ w.heap.size) (hs : s.size ≤ 1000000) {X : List TermD} (hX : parseD 0 s = (0, X)) :
    Calls Tryz.prog 69 #[.string s] w fun e w' => ∃ A c, e = .returned (.slice A X.length c) ∧ X.length ≤ c ∧ RPol w' b0 A X ∧ Below w.heap.size w w' := by
 have CP := Hd.mk (ref_Parse b0 0 s w hb0 hs)
 rw [hX] at CP
 clear hX
 go_enter Tryz.func69, Tryz.ntmps69
 go_wp2_with fail
 refine CP.out.mono ?_
 rintro e w2 ⟨A, c, rfl, hc, hr, hb⟩
 have HR := Hd.mk hr
 have HB := Hd.mk hb
 clear hr hb
 go_wp2_with fail
 go_ret
 exact ⟨A, c, rfl, hc, HR.out, HB.out⟩
theorem law13_shown (w : World) : Calls Tryz.prog 31 #[] w fun e w' => e = .returned (.bool true) ∧ Below w.heap.size w w' := by
 have CA := Hd.mk (fun W (hB : Below w.heap.size w W) => law13_text w.heap.size s13A W hB.size (by decide) parse13A)
 have CB := Hd.mk (fun W (hB : Below w.heap.size w W) => law13_text w.heap.size s13B W hB.size (by decide) parse13B)
 have CC := Hd.mk (fun W (hB : Below w.heap.size w W) => law13_text w.heap.size s13C W hB.size (by decide) parse13C)
 have SA : Hd (shortP [⟨ofD 1, ⟨2, 0, 0, 0⟩⟩, ⟨ofD (-1), ⟨0, 1, 0, 0⟩⟩]) := ⟨short13 (by decide) (by decide)⟩
 have SB : Hd (shortP [⟨ofD 1, ⟨1, 1, 0, 0⟩⟩, ⟨ofD (-1), ⟨0, 0, 0, 0⟩⟩]) := ⟨short13 (by decide) (by decide)⟩
 have SC : Hd (shortP [⟨ofD 1, ⟨1, 0, 0, 0⟩⟩, ⟨ofD (-1), ⟨0, 2, 0, 0⟩⟩]) := ⟨short13 (by decide) (by decide)⟩
 have HD := Hd.mk cross13
 have CN := Hd.mk (pair_All 3)
 rw [all13] at CN
 obtain ⟨PA, hA⟩ : ∃ PA : List TermD, [⟨ofD 1, ⟨2, 0, 0, 0⟩⟩, ⟨ofD (-1), ⟨0, 1, 0, 0⟩⟩] = PA := ⟨_, rfl⟩
 obtain ⟨PB, hB⟩ : ∃ PB : List TermD, [⟨ofD 1, ⟨1, 1, 0, 0⟩⟩, ⟨ofD (-1), ⟨0, 0, 0, 0⟩⟩] = PB := ⟨_, rfl⟩
 obtain ⟨PC, hC⟩ : ∃ PC : List TermD, [⟨ofD 1, ⟨1, 0, 0, 0⟩⟩, ⟨ofD (-1), ⟨0, 2, 0, 0⟩⟩] = PC := ⟨_, rfl⟩
 rw [hA] at CA SA HD
 rw [hB] at CB SB HD
 rw [hC] at CC SC HD
 clear hA hB hC
 unfold s13A at CA
 unfold s13B at CB
 unfold s13C at CC
 go_enter Tryz.func31, Tryz.ntmps31
 go_wp2_with fail
 refine (CA.out _ (.refl _ _)).mono ?_
 rintro e w1 ⟨A1, c1, rfl, hc1, hr, hb⟩
 have HR1 := Hd.mk hr
 have HB1 := Hd.mk hb
 clear hr hb CA
 go_wp2_with fail
 refine (CB.out _ HB1.out).mono ?_
 rintro e w2 ⟨A2, c2, rfl, hc2, hr, hb⟩
 have HR2 := Hd.mk (HR1.out.up hb)
 have HQ2 := Hd.mk hr
 have HB2 := Hd.mk (goes HB1.out hb)
 clear hr hb CB HR1 HB1
 have CR := Hd.mk (pair_Cross w.heap.size 0 A1 A2 c1 c2 PA PB w2 HB2.out.size HR2.out HQ2.out hc1 hc2 SA.out SB.out)
 rw [HD.out] at CR
 dsimp only at CR
 go_wp2_with fail
 refine CR.out.mono ?_
 rintro e w3 ⟨A3, c3, rfl, hc3, hr, hb⟩
 have HR3 := Hd.mk hr
 have HB3 := Hd.mk (goes HB2.out hb)
 clear hr hb CR HR2 HQ2 HB2
 go_wp2_with fail
 refine (CC.out _ HB3.out).mono ?_
 rintro e w4 ⟨A4, c4, rfl, hc4, hr, hb⟩
 have HR4 := Hd.mk (HR3.out.up hb)
 have HQ4 := Hd.mk hr
 have HB4 := Hd.mk (goes HB3.out hb)
 clear hr hb CC HR3 HB3
 have CS := Hd.mk (same_13 HR4.out hc3 SC.out HQ4.out hc4)
 go_wp2_with fail
 refine CS.out.mono ?_
 rintro e w5 ⟨rfl, hb⟩
 have HB5 := Hd.mk (goes HB4.out hb)
 clear hb CS
 go_wp2_with fail
 refine (CN.out w5).mono ?_
 rintro e w6 ⟨A6, c6, rfl, -, hb⟩
 have HB6 := Hd.mk (goes HB5.out hb)
 clear hb CN
 go_wp2_with fail
 go_ret
 exact ⟨rfl, HB6.out⟩
end Go.Proofs.YtjanagclahkfdaaGreat
namespace Go.Proofs.YtjanagclahkfdaaGreat
open Go.RowKit
theorem pairsU_mem {N : Nat} : ∀ {x : Nat × Nat}, x ∈ pairsU N → x.1 < x.2 ∧ x.2 < N := by
 induction N with
 | zero => intro x h; cases h
 | succ N ih =>
   intro x h
   have h : x ∈ pairsU N ++ (List.range N).map fun i => (i, N) := h
   rw [List.mem_append] at h
   rcases h with h | h
   ·have := ih h; omega
   ·simp only [List.mem_map, List.mem_range] at h
    obtain ⟨a, ha, rfl⟩ := h
    exact ⟨ha, Nat.lt_succ_self _⟩
theorem pairsU_sorted (N : Nat) : (pairsU N).Pairwise fun a b => a.2 < b.2 ∨ a.2 = b.2 ∧ a.1 < b.1 := by
 induction N with
 | zero => exact .nil
 | succ N ih =>
   show (pairsU N ++ (List.range N).map fun i => (i, N)).Pairwise _
   rw [List.pairwise_append]
   refine ⟨ih, ?_, ?_⟩
   ·rw [List.pairwise_map]
    exact List.pairwise_lt_range.imp fun h => .inr ⟨rfl, h⟩
   ·intro a ha b hb
    simp only [List.mem_map, List.mem_range] at hb
    obtain ⟨i, _, rfl⟩ := hb
    exact .inl (pairsU_mem ha).2
theorem pairsU_count (N : Nat) : 2 * (pairsU N).length = N * (N - 1) := by
 induction N with
 | zero => rfl
 | succ N ih =>
   show 2 * (pairsU N ++ (List.range N).map fun i => (i, N)).length = _
   rw [List.length_append, List.length_map, List.length_range, Nat.mul_add, ih, Nat.add_sub_cancel]
   cases N with
   | zero => rfl
   | succ M => simp only [Nat.add_sub_cancel, Nat.add_mul, Nat.mul_add]; omega
theorem allP_at {k : Nat} (hk : k ≤ 64) {i : Nat} {x y : Int} (h : (allP k)[i]? = some (x, y)) : 0 ≤ x ∧ x < y ∧ y < k := by
 unfold allP at h
 rw [List.getElem?_map, show (max 0 (min (k : Int) 64)).toNat = k by omega] at h
 cases h' : (pairsU k)[i]? with
 | none => rw [h'] at h; cases h
 | some a =>
   rw [h'] at h
   have h : (((a.1 : Nat) : Int), ((a.2 : Nat) : Int)) = (x, y) := by injection h
   injection h with h1 h2
   have := pairsU_mem (List.mem_of_getElem? h')
   omega
theorem allP_next {k : Nat} (hk : k ≤ 64) {i : Nat} {x y x' y' : Int} (h : (allP k)[i]? = some (x, y)) (h' : (allP k)[i + 1]? = some (x', y')) : y < y' ∨ y = y' ∧ x < x' := by
 unfold allP at h h'
 rw [List.getElem?_map, show (max 0 (min (k : Int) 64)).toNat = k by omega] at h h'
 cases e : (pairsU k)[i]? with
 | none => rw [e] at h; cases h
 | some a =>
   cases e' : (pairsU k)[i + 1]? with
   | none => rw [e'] at h'; cases h'
   | some b =>
     rw [e] at h
     rw [e'] at h'
     have h : (((a.1 : Nat) : Int), ((a.2 : Nat) : Int)) = (x, y) := by injection h
     have h' : (((b.1 : Nat) : Int), ((b.2 : Nat) : Int)) = (x', y') := by injection h'
     injection h with h1 h2
     injection h' with h3 h4
     obtain ⟨hi, ei⟩ := List.getElem?_eq_some_iff.1 e
     obtain ⟨hj, ej⟩ := List.getElem?_eq_some_iff.1 e'
     have := List.pairwise_iff_getElem.1 (pairsU_sorted k) i (i + 1) hi hj (by omega)
     rw [ei, ej] at this
     omega
theorem allP_len {k : Nat} (hk : k ≤ 64) : 2 * (allP k).length = k * (k - 1) := by
 unfold allP
 rw [List.length_map, show (max 0 (min (k : Int) 64)).toNat = k by omega]
 exact pairsU_count k
theorem law_PairAll (a0 : Int) (w : World) (h0 : 0 ≤ a0) (h1 : a0 ≤ 255) :
    Calls Tryz.prog 10 #[.int .u8 a0] w fun e w' => e = .returned (.bool true) ∧ Below w.heap.size w w' := by
 obtain ⟨k, rK⟩ : ∃ k : Nat, a0 % 40 = k := ⟨(a0 % 40).toNat, by omega⟩
 have hk : k < 40 := by omega
 have CN := Hd.mk (pair_All k)
 have HL := Hd.mk (allP_len (k := k) (by omega))
 have HA := Hd.mk (fun {i : Nat} {x y : Int} => allP_at (k := k) (by omega) (i := i) (x := x) (y := y))
 have HX := Hd.mk (fun {i : Nat} {x y x' y' : Int} => allP_next (k := k) (by omega) (i := i) (x := x) (y := y) (x' := x') (y' := y'))
 have CS := Hd.mk law13_shown
 generalize allP k = ps at CN HL HA HX
 go_enter Tryz.func10, Tryz.ntmps10
 go_wp2_with fail
 refine (CN.out w).mono ?_
 rintro e w1 ⟨A, c, rfl, hr, hb⟩
 have HR := Hd.mk hr
 have HB := Hd.mk hb
 clear hr hb CN
 have hm : ((k : Int) * ((k : Int) - 1)) = 2 * (ps.length : Int) := by
  have := HL.out
  cases k with
  | zero => simp at this ⊢; omega
  | succ j =>
    rw [Nat.add_sub_cancel] at this
    have h : ((2 * ps.length : Nat) : Int) = (((j + 1) * j : Nat) : Int) := by rw [this]
    push_cast at h ⊢
    rw [show ((j : Int) + 1 - 1) = j by omega]
    omega
 have HM := Hd.mk hm
 have hlen : (ps.length : Int) < 1000 := by
  have : ((k : Int) * ((k : Int) - 1)) ≤ 40 * 40 := by
   cases k with
   | zero => simp
   | succ j => exact Int.mul_le_mul (by omega) (by omega) (by omega) (by omega)
  omega
 have HLEN := Hd.mk hlen
 have rM : max (wrap64 ((wrap64 ((k : Int) * ((k : Int) - 1))).tdiv 2)) 0 = (ps.length : Int) := by
  have e1 : wrap64 (2 * (ps.length : Int)) = 2 * ps.length := by unfold wrap64; omega
  have e2 : wrap64 (ps.length : Int) = ps.length := by unfold wrap64; omega
  rw [hm, e1, Int.mul_tdiv_cancel_left _ (by omega), e2]
  omega
 have HRM := Hd.mk rM
 clear hm HL rM
 go_wp2_with fail
 go_loopw [5] (fun v5 wr => ∃ i : Nat, v5 = .int .i64 i ∧ i ≤ ps.length ∧ Hd (Below w1.heap.size w1 wr)) (fun v _ => ps.length - (intOf v).toNat)
 case atStart => exact ⟨0, rfl, by omega, ⟨.refl _ _⟩⟩
 case round =>
  obtain ⟨i, rfl, hi, HBi⟩ := hrel
  by_cases hlt : i < ps.length
  ·have i1 : (i : Int) < ps.length := by omega
   have i3 : (0 : Int) ≤ i := by omega
   obtain ⟨ad, x, y, rfl, -, hx, c0, c1⟩ := (HR.out.up HBi.out).get hlt
   obtain ⟨x0, xy, yk⟩ := HA.out hx.out
   have q1 : decide (x < 0) = false := decide_eq_false (by omega)
   have q2 : decide (x ≥ y) = false := decide_eq_false (by omega)
   have q3 : decide (y ≥ (k : Int)) = false := decide_eq_false (by omega)
   clear rK
   rcases Nat.eq_zero_or_pos i with h0 | h0
   ·have z0 : decide (0 < i) = false := decide_eq_false (by omega)
    clear h0
    go_wp2_with fail
    go_quiet (fail)
    go_wp2_with fail
    go_quiet (fail)
    go_wp2_with fail
    exact ⟨⟨i + 1, by go_num, by omega, ⟨Below.dn HBi.out _⟩⟩, by simp [intOf]; omega⟩
   ·have z0 : decide (0 < i) = true := decide_eq_true (by omega)
    obtain ⟨j, hj⟩ : ∃ j, i = j + 1 := ⟨i - 1, by omega⟩
    have hw : IntKind.i64.wrap ((i : Int) - 1) = (j : Int) := by rw [IntKind.wrap_i64]; omega
    have hjl : j < ps.length := by omega
    have j1 : (j : Int) < ps.length := by omega
    have j3 : (0 : Int) ≤ j := by omega
    obtain ⟨ad', x', y', e', -, hx', d0, d1⟩ := (HR.out.up HBi.out).get hjl
    injection e' with e'
    subst e'
    have hn := HX.out hx'.out (by rw [← hj]; exact hx.out)
    have q4 : decide (y < y') = false := decide_eq_false (by omega)
    rcases hn with hn | ⟨hn, hn2⟩
    ·have q5 : (y == y') = false := by rw [beq_eq_false_iff_ne]; omega
     clear h0 hj hn hx hx'
     go_wp2_with fail
     go_quiet (fail)
     go_wp2_with fail
     go_quiet (fail)
     go_wp2_with fail
     exact ⟨⟨i + 1, by go_num, by omega, ⟨Below.dn HBi.out _⟩⟩, by simp [intOf]; omega⟩
    ·have q5 : (y == y') = true := by rw [beq_iff_eq]; omega
     have q6 : decide (x ≤ x') = false := decide_eq_false (by omega)
     clear h0 hj hn hn2 hx hx'
     go_wp2_with fail
     go_quiet (fail)
     go_wp2_with fail
     go_quiet (fail)
     go_wp2_with fail
     exact ⟨⟨i + 1, by go_num, by omega, ⟨Below.dn HBi.out _⟩⟩, by simp [intOf]; omega⟩
  ·have i1 : ¬ (i : Int) < ps.length := by omega
   have rM := HRM.out
   go_wp2_with fail
   refine (CS.out wr).mono ?_
   rintro e w5 ⟨rfl, hb⟩
   have HB5 := Hd.mk (goes HB.out (goes HBi.out hb))
   clear hb CS
   go_wp2_with fail
   go_ret
   exact ⟨rfl, HB5.out⟩
end Go.Proofs.YtjanagclahkfdaaGreat
