/- Parts of the proof, joined: each theorem says what it shows. -/
import Derived.Test.YtgjkgkgieeoalaaGreatC22
import Derived.Test.YtgjkgkgieeoalaaGreatC04
import Derived.Test.YtgjkgkgieeoalaaGreatC27
import Derived.Test.YtgjkgkgieeoalaaGreatC11
import Derived.Test.YtgjkgkgieeoalaaGreatC10
import Derived.PlainAid
set_option linter.unusedVariables false
set_option linter.unusedSimpArgs false
set_option maxHeartbeats 24000000
set_option maxRecDepth 100000
namespace Go.Proofs.YtgjkgkgieeoalaaGreat
open Go.RowKit Go.PlainAid
theorem gb_trans {w w' w'' : World} {row : Option Nat} (h : w.grownBy w' row) (k : w'.grownBy w'' row) : w.grownBy w'' row :=
 ⟨k.os.trans h.os, k.tape.trans h.tape, k.output.trans h.output, Nat.le_trans h.size k.size, fun b hb hne => (k.block b (Nat.lt_of_lt_of_le hb h.size) hne).trans (h.block b hb hne)⟩
theorem gb_of {w w' : World} {row : Option Nat} (h : Below w.heap.size w w') : w.grownBy w' row := ⟨h.os, h.tape, h.output, h.size, fun b hb _ => h.block b hb⟩
theorem gb_dn {w w' : World} {row : Option Nat} (h : w.grownBy w' row) (n : Nat) : w.grownBy (w'.drewN n) row := ⟨h.os, h.tape, h.output, h.size, h.block⟩
def tx (s : ByteArray) (at_ : Nat) (bad : Bool) : Array Value := #[.string s, .int .i64 at_, .bool bad]
def skipF (s : ByteArray) : Nat → Nat → Nat
 | 0, k => k
 | n + 1, k => if k < s.size ∧ bt s k = 32 then skipF s n (k + 1) else k
def skipD (s : ByteArray) (k : Nat) : Nat := skipF s (s.size - k) k
theorem skipF_ge (s : ByteArray) : ∀ (n k : Nat), k ≤ skipF s n k ∧ skipF s n k ≤ max k s.size
 | 0, k => ⟨Nat.le_refl _, by simp [skipF]; omega⟩
 | n + 1, k => by
   unfold skipF
   split
   ·rename_i h
    have := skipF_ge s n (k + 1)
    omega
   ·omega
theorem skipD_le {s : ByteArray} {k : Nat} (h : k ≤ s.size) : skipD s k ≤ s.size := by have := (skipF_ge s (s.size - k) k).2; unfold skipD; omega
theorem skipD_go {s : ByteArray} {k : Nat} (h : k < s.size) (hb : bt s k = 32) : skipD s k = skipD s (k + 1) := by
 unfold skipD
 rw [show s.size - k = (s.size - (k + 1)) + 1 by omega]
 conv => lhs; unfold skipF
 rw [if_pos ⟨h, hb⟩]
theorem skipD_end {s : ByteArray} {k : Nat} (h : ¬ (k < s.size ∧ bt s k = 32)) : skipD s k = k := by
 unfold skipD
 cases s.size - k with
 | zero => rfl
 | succ n => exact if_neg h
theorem text_skip (s : ByteArray) (k g : Nat) (bad : Bool) (w : World) (hk : Bk w g 244 (tx s k bad)) (hs : s.size ≤ maxLen) (hks : k ≤ s.size) :
    Calls Tryz.prog 297 #[.pointer (some ⟨g, 0, none⟩)] w fun e w' => e = .returned (.tuple #[]) ∧ Bk w' g 244 (tx s (skipD s k) bad) ∧ w.grownBy w' (some g) := by
 unfold maxLen at hs
 have HK := Hd.mk hk
 clear hk
 go_enter Tryz.func297, Tryz.ntmps297
 go_wp2_with fail
 go_loopg [5] (s.size - k) (fun n _ wr => ∃ i : Nat, n = s.size - i ∧ i ≤ s.size ∧ Hd (Bk wr g 244 (tx s i bad)) ∧ Hd (w.grownBy wr (some g)) ∧ Hd (skipD s k = skipD s i))
 case atStart => exact ⟨k, rfl, hks, HK, ⟨gb_of (Below.refl _ _)⟩, ⟨rfl⟩⟩
 case round =>
  obtain ⟨i, hn, hi, HB, HG, HE⟩ := hrel
  obtain ⟨q0, q1, q2⟩ := HB.out.three
  have fz := fun i => HB.out.froz i
  by_cases hlt : i < s.size
  ·have i1 : (i : Int) < s.size := by omega
   have i0 : (0 : Int) ≤ i := by omega
   have hb := get_bt s i hlt
   by_cases h32 : bt s i = 32
   ·have e1 : (bt s i == 32) = true := by rw [h32]; rfl
    have HN := Hd.mk (HE.out.trans (skipD_go hlt h32))
    clear h32
    go_wp2_with fail
    go_quiet (fail)
    go_wp2_with fail
    go_roundg (s.size - (i + 1))
    case measure => omega
    case rel => exact ⟨i + 1, rfl, by omega, ⟨(HB.out.dn nq).set_ 1 _⟩, ⟨(gb_dn HG.out nq).set 1 _⟩, HN⟩
   ·have e1 : (bt s i == 32) = false := by rw [beq_eq_false_iff_ne]; exact h32
    have HN := Hd.mk (HE.out.trans (skipD_end (fun h => h32 h.2)))
    clear h32
    go_wp2_with fail
    go_quiet (fail)
    go_wp2_with fail
    go_end0
    rw [HN.out]
    exact ⟨rfl, HB.out.dn nq, gb_dn HG.out nq⟩
  ·have i1 : ¬ (i : Int) < s.size := by omega
   have HN := Hd.mk (HE.out.trans (skipD_end (fun h => hlt h.1)))
   go_wp2_with fail
   go_quiet (fail)
   go_wp2_with fail
   go_end0
   rw [HN.out]
   exact ⟨rfl, HB.out.dn nq, gb_dn HG.out nq⟩
theorem text_next (s : ByteArray) (k g : Nat) (bad : Bool) (w : World) (hk : Bk w g 244 (tx s k bad)) (hs : s.size ≤ maxLen) (hks : k ≤ s.size) :
    Calls Tryz.prog 267 #[.pointer (some ⟨g, 0, none⟩)] w fun e w' => e = .returned (.int .u8 (bt s (skipD s k))) ∧ Bk w' g 244 (tx s (skipD s k) bad) ∧ w.grownBy w' (some g) := by
 have CS := Hd.mk (text_skip s k g bad w hk hs hks)
 unfold maxLen at hs
 have hle := skipD_le hks
 obtain ⟨i, hi⟩ : ∃ i, skipD s k = i := ⟨_, rfl⟩
 rw [hi] at CS hle ⊢
 clear hk hi hks
 go_enter Tryz.func267, Tryz.ntmps267
 go_wp2_with fail
 refine CS.out.mono ?_
 rintro e w2 ⟨rfl, hB, hG⟩
 have HB := Hd.mk hB
 have HG := Hd.mk hG
 obtain ⟨q0, q1, q2⟩ := hB.three
 clear CS hB hG
 by_cases hlt : i < s.size
 ·have i1 : (i : Int) < s.size := by omega
  have i0 : (0 : Int) ≤ i := by omega
  have hb := get_bt s i hlt
  go_wp2_with fail
  go_quiet (fail)
  go_wp2_with fail
  go_quiet (fail)
  go_wp2_with fail
  go_ret
  exact ⟨rfl, (HB.out.dn _).dn _, gb_dn (gb_dn HG.out _) _⟩
 ·have i1 : ¬ (i : Int) < s.size := by omega
  have hb := bt_end s (Nat.le_of_not_lt hlt)
  go_wp2_with fail
  go_quiet (fail)
  go_wp2_with fail
  go_ret
  rw [hb]
  exact ⟨rfl, HB.out.dn _, gb_dn HG.out _⟩
def eatB (s : ByteArray) (k : Nat) (c : Int) : Bool := bt s (skipD s k) == c && decide (skipD s k < s.size)
def eatK (s : ByteArray) (k : Nat) (c : Int) : Nat := if eatB s k c = true then skipD s k + 1 else skipD s k
theorem eatK_le {s : ByteArray} {k : Nat} {c : Int} (h : k ≤ s.size) : eatK s k c ≤ s.size := by
 have := skipD_le h
 unfold eatK
 split
 ·rename_i h2
  unfold eatB at h2
  simp only [Bool.and_eq_true, decide_eq_true_eq] at h2
  omega
 ·exact this
theorem text_eat (s : ByteArray) (k g : Nat) (bad : Bool) (c : Int) (w : World) (hk : Bk w g 244 (tx s k bad)) (hs : s.size ≤ maxLen) (hks : k ≤ s.size) :
    Calls Tryz.prog 266 #[.pointer (some ⟨g, 0, none⟩), .int .u8 c] w fun e w' => e = .returned (.bool (eatB s k c)) ∧ Bk w' g 244 (tx s (eatK s k c) bad) ∧ w.grownBy w' (some g) := by
 have CS := Hd.mk (fun W (hW : Bk W g 244 (tx s k bad)) => text_next s k g bad W hW hs hks)
 have HK := Hd.mk hk
 unfold maxLen at hs
 have hle := skipD_le hks
 obtain ⟨B, hB⟩ : ∃ B, eatB s k c = B := ⟨_, rfl⟩
 obtain ⟨KK, hK⟩ : ∃ KK, eatK s k c = KK := ⟨_, rfl⟩
 have HB := Hd.mk hB
 have HKK := Hd.mk hK
 rw [hB, hK]
 unfold eatK at HKK
 rw [hB] at HKK
 unfold eatB at HB
 obtain ⟨i, hi⟩ : ∃ i, skipD s k = i := ⟨_, rfl⟩
 rw [hi] at CS hle HB HKK
 clear hk hi hks hB hK
 by_cases hc : bt s i = c
 ·by_cases hlt : i < s.size
  ·have i1 : ¬ (s.size : Int) ≤ i := by omega
   have e1 : (bt s i != c) = false := by rw [bne_eq_false_iff_eq]; exact hc
   have hBt : Hd (B = true) := ⟨by rw [← HB.out, hc, decide_eq_true hlt]; simp⟩
   have hKt : Hd (KK = i + 1) := ⟨by rw [← HKK.out, hBt.out]; exact if_pos rfl⟩
   clear hc HB HKK
   go_enter Tryz.func266, Tryz.ntmps266
   go_wp2_with fail
   refine wp_region_mid (by kernel_rfl) (by kernel_rfl) (fun c a d v w h => by cases d <;> exact h) (.pointer (some ⟨g, 0, none⟩)) (.int .u8 c) rfl (Or.inl ⟨by rfl, fun W _ => by go_simp; try with_reducible rfl⟩) (Or.inl ⟨by rfl, fun W _ => by go_simp; try with_reducible rfl⟩) ?_
   intro K hK
   simp only [Act.put, List.setIfInBounds_toArray, List.set_cons_zero, List.set_cons_succ]
   go_simp
   refine (CS.out _ HK.out.d1).mono ?_
   rintro e w2 ⟨rfl, hb2, hG⟩
   have HB2 := Hd.mk hb2
   have HG := Hd.mk hG
   obtain ⟨q0, q1, q2⟩ := hb2.three
   refine hK _ _ ⟨fun W => ∃ n, W = w2.drewN n, ⟨0, rfl⟩, ?_⟩
   clear hK K hb2 hG CS
   repeat (go_big_quiet_step (fail))
   refine wpQuiet_nil fun W hW => ?_
   obtain ⟨nq, rfl⟩ := hW
   have fz := fun i => HB2.out.froz i
   go_wp2_with fail
   go_ret
   rw [hBt.out, hKt.out]
   exact ⟨rfl, (HB2.out.dn nq).set_ 1 _, gb_trans (gb_dn (gb_of (Below.refl _ _)) 1) ((gb_dn HG.out nq).set 1 _)⟩
  ·have i1 : (s.size : Int) ≤ i := by omega
   have e1 : (bt s i != c) = false := by rw [bne_eq_false_iff_eq]; exact hc
   have hBt : Hd (B = false) := ⟨by rw [← HB.out, decide_eq_false hlt, Bool.and_false]⟩
   have hKt : Hd (KK = i) := ⟨by rw [← HKK.out, hBt.out]; exact if_neg (by simp)⟩
   clear hc HB HKK
   go_enter Tryz.func266, Tryz.ntmps266
   go_wp2_with fail
   refine wp_region_mid (by kernel_rfl) (by kernel_rfl) (fun c a d v w h => by cases d <;> exact h) (.pointer (some ⟨g, 0, none⟩)) (.int .u8 c) rfl (Or.inl ⟨by rfl, fun W _ => by go_simp; try with_reducible rfl⟩) (Or.inl ⟨by rfl, fun W _ => by go_simp; try with_reducible rfl⟩) ?_
   intro K hK
   simp only [Act.put, List.setIfInBounds_toArray, List.set_cons_zero, List.set_cons_succ]
   go_simp
   refine (CS.out _ HK.out.d1).mono ?_
   rintro e w2 ⟨rfl, hb2, hG⟩
   have HB2 := Hd.mk hb2
   have HG := Hd.mk hG
   obtain ⟨q0, q1, q2⟩ := hb2.three
   refine hK _ _ ⟨fun W => ∃ n, W = w2.drewN n, ⟨0, rfl⟩, ?_⟩
   clear hK K hb2 hG CS
   repeat (go_big_quiet_step (fail))
   refine wpQuiet_nil fun W hW => ?_
   obtain ⟨nq, rfl⟩ := hW
   go_wp2_with fail
   go_ret
   rw [hBt.out, hKt.out]
   exact ⟨rfl, HB2.out.dn nq, gb_trans (gb_dn (gb_of (Below.refl _ _)) 1) (gb_dn HG.out nq)⟩
 ·have e1 : (bt s i != c) = true := by rw [bne_iff_ne]; exact hc
  have hBt : Hd (B = false) := ⟨by rw [← HB.out, beq_eq_false_iff_ne.2 hc, Bool.false_and]⟩
  have hKt : Hd (KK = i) := ⟨by rw [← HKK.out, hBt.out]; exact if_neg (by simp)⟩
  clear hc HB HKK
  go_enter Tryz.func266, Tryz.ntmps266
  go_wp2_with fail
  refine wp_region_mid (by kernel_rfl) (by kernel_rfl) (fun c a d v w h => by cases d <;> exact h) (.pointer (some ⟨g, 0, none⟩)) (.int .u8 c) rfl (Or.inl ⟨by rfl, fun W _ => by go_simp; try with_reducible rfl⟩) (Or.inl ⟨by rfl, fun W _ => by go_simp; try with_reducible rfl⟩) ?_
  intro K hK
  simp only [Act.put, List.setIfInBounds_toArray, List.set_cons_zero, List.set_cons_succ]
  go_simp
  refine (CS.out _ HK.out.d1).mono ?_
  rintro e w2 ⟨rfl, hb2, hG⟩
  have HB2 := Hd.mk hb2
  have HG := Hd.mk hG
  obtain ⟨q0, q1, q2⟩ := hb2.three
  refine hK _ _ ⟨fun W => ∃ n, W = w2.drewN n, ⟨0, rfl⟩, ?_⟩
  clear hK K hb2 hG CS
  repeat (go_big_quiet_step (fail))
  refine wpQuiet_nil fun W hW => ?_
  obtain ⟨nq, rfl⟩ := hW
  go_wp2_with fail
  go_ret
  rw [hBt.out, hKt.out]
  exact ⟨rfl, HB2.out.dn nq, gb_trans (gb_dn (gb_of (Below.refl _ _)) 1) (gb_dn HG.out nq)⟩
theorem ref_digit (c : Int) (w : World) :
    Calls Tryz.prog 322 #[.int .u8 c] w fun e w' => e = .returned (.bool (decide (48 ≤ c) && decide (c ≤ 57))) ∧ w = w' := by
 by_cases h1 : (48 : Int) ≤ c
 ·by_cases h2 : c ≤ 57
  ·have e : (decide (48 ≤ c) && decide (c ≤ 57)) = true := by rw [decide_eq_true h1, decide_eq_true h2]; rfl
   rw [e]
   clear e
   go_enter Tryz.func322, Tryz.ntmps322
   go_wp2_with fail
   go_ret
   exact ⟨rfl, rfl⟩
  ·have e : (decide (48 ≤ c) && decide (c ≤ 57)) = false := by rw [decide_eq_false h2, Bool.and_false]
   rw [e]
   clear e
   go_enter Tryz.func322, Tryz.ntmps322
   go_wp2_with fail
   go_ret
   exact ⟨rfl, rfl⟩
 ·have e : (decide (48 ≤ c) && decide (c ≤ 57)) = false := by rw [decide_eq_false h1, Bool.false_and]
  rw [e]
  clear e
  go_enter Tryz.func322, Tryz.ntmps322
  go_wp2_with fail
  go_ret
  exact ⟨rfl, rfl⟩
def varD (c : Int) : Int := if c = 120 then 0 else if c = 121 then 1 else if c = 122 then 2 else if c = 119 then 3 else -1
theorem ref_variable (c : Int) (w : World) :
    Calls Tryz.prog 314 #[.int .u8 c] w fun e w' => e = .returned (.int .i64 (varD c)) ∧ w = w' := by
 have n0 : (((⟨#[120, 121, 122, 119]⟩ : ByteArray)[0]'(by decide)).toNat : Int) = 120 := rfl
 have n1 : (((⟨#[120, 121, 122, 119]⟩ : ByteArray)[1]'(by decide)).toNat : Int) = 121 := rfl
 have n2 : (((⟨#[120, 121, 122, 119]⟩ : ByteArray)[2]'(by decide)).toNat : Int) = 122 := rfl
 have n3 : (((⟨#[120, 121, 122, 119]⟩ : ByteArray)[3]'(by decide)).toNat : Int) = 119 := rfl
 obtain ⟨V, hV⟩ : ∃ V, varD c = V := ⟨_, rfl⟩
 rw [hV]
 have HV := Hd.mk hV
 unfold varD at HV
 clear hV
 go_enter Tryz.func314, Tryz.ntmps314
 go_wp2_with fail
 go_loop [3] (fun v => ∃ i : Nat, v = .int .i64 i ∧ i ≤ 4 ∧ Hd (0 < i → c ≠ 120) ∧ Hd (1 < i → c ≠ 121) ∧ Hd (2 < i → c ≠ 122) ∧ Hd (3 < i → c ≠ 119)) (fun v => 4 - (intOf v).toNat)
 case atStart => exact ⟨0, rfl, by omega, ⟨fun h => by omega⟩, ⟨fun h => by omega⟩, ⟨fun h => by omega⟩, ⟨fun h => by omega⟩⟩
 case round =>
  obtain ⟨i, rfl, hi, h0, h1, h2, h3⟩ := hrel
  rcases (show i = 0 ∨ i = 1 ∨ i = 2 ∨ i = 3 ∨ i = 4 by omega) with rfl | rfl | rfl | rfl | rfl
  ·by_cases hc : c = 120
   ·have e : ((120 : Int) == c) = true := by rw [hc]; rfl
    have HT : Hd (V = 0) := ⟨by rw [← HV.out, if_pos hc]⟩
    clear hc
    go_wp2_with fail
    go_ret
    rw [HT.out]
    exact ⟨rfl, rfl⟩
   ·have e : ((120 : Int) == c) = false := by rw [beq_eq_false_iff_ne]; exact fun h => hc h.symm
    have HC := Hd.mk hc
    clear hc
    go_wp2_with fail
    go_round
    case measure => first | (simp [intOf]; done) | (simp [intOf]; omega)
    case rel => exact ⟨1, rfl, by omega, ⟨fun _ => HC.out⟩, ⟨fun h => by omega⟩, ⟨fun h => by omega⟩, ⟨fun h => by omega⟩⟩
  ·by_cases hc : c = 121
   ·have e : ((121 : Int) == c) = true := by rw [hc]; rfl
    have HT : Hd (V = 1) := ⟨by rw [← HV.out, if_neg (h0.out (by omega)), if_pos hc]⟩
    clear hc
    go_wp2_with fail
    go_ret
    rw [HT.out]
    exact ⟨rfl, rfl⟩
   ·have e : ((121 : Int) == c) = false := by rw [beq_eq_false_iff_ne]; exact fun h => hc h.symm
    have HC := Hd.mk hc
    clear hc
    go_wp2_with fail
    go_round
    case measure => first | (simp [intOf]; done) | (simp [intOf]; omega)
    case rel => exact ⟨2, rfl, by omega, ⟨fun _ => h0.out (by omega)⟩, ⟨fun _ => HC.out⟩, ⟨fun h => by omega⟩, ⟨fun h => by omega⟩⟩
  ·by_cases hc : c = 122
   ·have e : ((122 : Int) == c) = true := by rw [hc]; rfl
    have HT : Hd (V = 2) := ⟨by rw [← HV.out, if_neg (h0.out (by omega)), if_neg (h1.out (by omega)), if_pos hc]⟩
    clear hc
    go_wp2_with fail
    go_ret
    rw [HT.out]
    exact ⟨rfl, rfl⟩
   ·have e : ((122 : Int) == c) = false := by rw [beq_eq_false_iff_ne]; exact fun h => hc h.symm
    have HC := Hd.mk hc
    clear hc
    go_wp2_with fail
    go_round
    case measure => first | (simp [intOf]; done) | (simp [intOf]; omega)
    case rel => exact ⟨3, rfl, by omega, ⟨fun _ => h0.out (by omega)⟩, ⟨fun _ => h1.out (by omega)⟩, ⟨fun _ => HC.out⟩, ⟨fun h => by omega⟩⟩
  ·by_cases hc : c = 119
   ·have e : ((119 : Int) == c) = true := by rw [hc]; rfl
    have HT : Hd (V = 3) := ⟨by rw [← HV.out, if_neg (h0.out (by omega)), if_neg (h1.out (by omega)), if_neg (h2.out (by omega)), if_pos hc]⟩
    clear hc
    go_wp2_with fail
    go_ret
    rw [HT.out]
    exact ⟨rfl, rfl⟩
   ·have e : ((119 : Int) == c) = false := by rw [beq_eq_false_iff_ne]; exact fun h => hc h.symm
    have HC := Hd.mk hc
    clear hc
    go_wp2_with fail
    go_round
    case measure => first | (simp [intOf]; done) | (simp [intOf]; omega)
    case rel => exact ⟨4, rfl, by omega, ⟨fun _ => h0.out (by omega)⟩, ⟨fun _ => h1.out (by omega)⟩, ⟨fun _ => h2.out (by omega)⟩, ⟨fun _ => HC.out⟩⟩
  ·have HT : Hd (V = -1) := ⟨by rw [← HV.out, if_neg (h0.out (by omega)), if_neg (h1.out (by omega)), if_neg (h2.out (by omega)), if_neg (h3.out (by omega))]⟩
   go_wp2_with fail
   go_ret
   rw [HT.out]
   exact ⟨rfl, rfl⟩
end Go.Proofs.YtgjkgkgieeoalaaGreat
namespace Go.Proofs.YtgjkgkgieeoalaaGreat
open Go.RowKit
def fromF (b : Int) : Nat → List Int → Int × List Int
 | v, [] => (0, limbs v)
 | v, d :: ds => if 8 < (limbs (v * b.toNat + d.toNat)).length then (21, []) else fromF b (v * b.toNat + d.toNat) ds
theorem fromF_big {b d : Int} {v : Nat} {ds : List Int} (h : 8 < (limbs (v * b.toNat + d.toNat)).length) : fromF b v (d :: ds) = (21, []) := if_pos h
theorem fromF_go {b d : Int} {v : Nat} {ds : List Int} (h : ¬ 8 < (limbs (v * b.toNat + d.toNat)).length) : fromF b v (d :: ds) = fromF b (v * b.toNat + d.toNat) ds := if_neg h
theorem take_rev {l : List Int} {i : Nat} {d : Int} (h : l[i]? = some d) : (l.take (i + 1)).reverse = d :: (l.take i).reverse := by
 rw [List.take_add_one, h]
 simp
theorem RdI.of_bk1 {w : World} {g : Nat} {x : Int} (h : Bk w g 112 #[.int .u64 x]) : RdI w .u64 (some ⟨g, 0, none⟩) [x] := by
 refine ⟨by simp [ints], fun _ => ⟨_, rfl, h.lt, fun j u hu => ?_⟩⟩
 cases j with
 | zero =>
   simp only [ints, List.map_cons, List.map_nil, List.getElem?_cons_zero, Option.some.injEq] at hu
   subst hu
   rw [show ((⟨g, 0, none⟩ : Addr).add 0) = ⟨g, 0, none⟩ by unfold Addr.add; simp]
   exact h.one
 | succ j => simp [ints] at hu
theorem Bk.new2 (w : World) (o : Obj) (t : TypeId) (cs : Array Value) : Bk ((w.alloc o).alloc (.cells cs t)) (w.heap.size + 1) t cs := by
 have := Bk.new_ (w.alloc o) t cs
 rwa [World.size_alloc] at this
theorem u64_one {x : Int} (h0 : 0 ≤ x) (h1 : x < 18446744073709551616) : U64 [x] := U64.nil.cons h0 h1
theorem val_one1 {x : Int} : val [x] = x.toNat := by simp [val]
theorem ref_From (A : Option Addr) (c : Nat) (l : List Int) (b : Int) (w : World) (h : RdI w .u64 A l) (h9 : l.length ≤ 100000) (hb2 : 2 ≤ b) (hb64 : b < 18446744073709551616) (hd : ∀ d ∈ l, 0 ≤ d ∧ d < b) :
    Calls Tryz.prog 298 #[.slice A l.length c, .int .u64 b] w fun e w' => ∃ v, e = .returned (.tuple #[v, .int .i64 (fromF b 0 l.reverse).1]) ∧ OwnI w' w.heap.size 112 .u64 v (fromF b 0 l.reverse).2 ∧ Below w.heap.size w w' := by
 obtain ⟨E, hE⟩ : ∃ E, fromF b 0 l.reverse = E := ⟨_, rfl⟩
 rw [hE]
 have HE := Hd.mk hE
 have HP := Hd.mk h
 have HDD := Hd.mk hd
 clear hE h hd
 have hb3 : ¬ b < 2 := by omega
 go_enter Tryz.func298, Tryz.ntmps298
 go_wp2_with fail
 go_loop [6] (fun v => ∃ i : Nat, v = .int .i64 i ∧ i ≤ l.length) (fun v => l.length - (intOf v).toNat)
 case atStart => exact ⟨0, rfl, by omega⟩
 case round =>
  obtain ⟨i, rfl, hi⟩ := hrel
  by_cases hlt : i < l.length
  ·have i1 : (i : Int) < l.length := by omega
   have i3 : (0 : Int) ≤ i := by omega
   obtain ⟨ad, x, rfl, _, hx, hc⟩ := HP.out.get hlt
   have hxb : 0 ≤ x ∧ x < b := by
    have h1 := HDD.out (l.getD i 0) (by rw [List.getD_eq_getElem?_getD, List.getElem?_eq_getElem hlt]; exact List.getElem_mem hlt)
    rw [hx.out] at h1
    exact h1
   have hxb2 : ¬ b ≤ x := by omega
   go_wp2_with fail
   go_round
   case measure => first | (simp [intOf]; done) | (simp [intOf]; omega)
   case rel => exact ⟨i + 1, by go_num, by omega⟩
  have i1 : ¬ (i : Int) < l.length := by omega
  go_wp2_with fail
  have HO0 : Hd (OwnI (w.alloc (.cells #[] 112)) w.heap.size 112 .u64 (.slice (some ⟨w.heap.size, 0, none⟩) 0 0) (limbs 0)) := ⟨by
   rw [limbs_zero]
   exact World.ownsRow_lit (e := 112) (size := 1) w #[] 0 (Nat.le_refl _) (by unfold maxLen; omega) rfl⟩
  go_loopw [7, 8] (fun v7 v8 wr => ∃ (v i : Nat) (x : Int), v8 = .int .i64 x ∧ x = (i : Int) - 1 ∧ i ≤ l.length ∧ Hd (OwnI wr w.heap.size 112 .u64 v7 (limbs v)) ∧ Hd (Below w.heap.size w wr) ∧ Hd (fromF b v (l.take i).reverse = E) ∧ Hd ((limbs v).length ≤ 8)) (fun _ v _ => (intOf v + 1).toNat)
  case atStart => exact ⟨0, l.length, _, rfl, rfl, Nat.le_refl _, HO0, ⟨(Below.refl _ _).alloc (Nat.le_refl _) _⟩, ⟨by rw [List.take_length]; exact HE.out⟩, ⟨by rw [limbs_zero]; simp⟩⟩
  case round =>
   clear HO0 i1
   obtain ⟨v, i, x, rfl, hx, hi, HO, HB, HF, H8⟩ := hrel
   obtain ⟨Ax, cx, rfl, hcx, hmx, hrx⟩ := HO.out.reads
   cases i with
   | zero =>
     have hx0 : ¬ (0 : Int) ≤ x := by omega
     have HT : Hd (E = (0, limbs v)) := ⟨by rw [← HF.out]; rfl⟩
     go_wp2_with fail
     go_ret2
     rw [HT.out]
     exact ⟨_, rfl, HO.out, HB.out⟩
   | succ j =>
     have hx0 : (0 : Int) ≤ x := by omega
     have hxl : x < l.length := by omega
     have hjl : j < l.length := by omega
     have hxj : x = j := by omega
     subst hxj
     obtain ⟨ad, d, rfl, _, hd, hcd⟩ := (HP.out.up HB.out).get hjl
     have e1 : l[j]? = some d := by
      have h1 := hd.out
      rw [List.getD_eq_getElem?_getD, List.getElem?_eq_getElem hjl] at h1
      rw [List.getElem?_eq_getElem hjl]
      simpa using h1
     have hdb := HDD.out d (List.mem_of_getElem? e1)
     have HF2 : Hd (fromF b v (d :: (l.take j).reverse) = E) := ⟨by rw [← take_rev e1]; exact HF.out⟩
     clear HF e1 hx
     go_wp2_with fail
     obtain ⟨V1, hV1⟩ : ∃ V1, v * b.toNat = V1 := ⟨_, rfl⟩
     obtain ⟨V2, hV2⟩ : ∃ V2, V1 + d.toNat = V2 := ⟨_, rfl⟩
     have h8v := H8.out
     have hbl : (limbs V1).length ≤ 100 := limbs_len.2 (by
      rw [← hV1]
      have h1 := limbs_len.1 h8v
      have h2 : b.toNat ≤ 18446744073709551616 := by omega
      calc v * b.toNat ≤ v * 18446744073709551616 := Nat.mul_le_mul_left _ h2
       _ < 18446744073709551616 ^ 8 * 18446744073709551616 := Nat.mul_lt_mul_of_pos_right h1 (by omega)
       _ ≤ 18446744073709551616 ^ 100 := by rw [← Nat.pow_succ]; exact Nat.pow_le_pow_right (by omega) (by omega))
     have CM := Hd.mk (fun W g (hB : Below wr.heap.size wr W) (hk : Bk W g 112 #[.int .u64 b]) => ref_Mul Ax (some ⟨g, 0, none⟩) cx 1 (limbs v) [b] W (hrx.up hB) hcx (by omega) (RdI.of_bk1 hk) (by simp) (by simp) (limbs_u64 _) (u64_one (by omega) hb64))
     have CA := Hd.mk (fun W AX cX g (hB : RdI W .u64 AX (limbs V1)) (hcX : (limbs V1).length ≤ cX) (hk : Bk W g 112 #[.int .u64 d]) => ref_Add AX (some ⟨g, 0, none⟩) cX 1 (limbs V1) [d] W hB hcX (by omega) (RdI.of_bk1 hk) (by simp) (by simp) (limbs_u64 _) (u64_one hdb.1 (by omega)))
     simp only [val_limbs, val_one1, hV1, List.length_cons, List.length_nil, Nat.zero_add] at CM
     simp only [val_limbs, val_one1, hV2, List.length_cons, List.length_nil, Nat.zero_add] at CA
     have SO := Hd.mk (fun W (hB : Below wr.heap.size wr W) => And.intro (Hd.mk hB) (cell_up hcd hB))
     go_region_held3 (fun W => Hd (Below wr.heap.size wr W) ∧ W.cell? (ad.add j) = some (.int .u64 d))
      (first
       | with_reducible exact SO.out _ (.refl _ _)
       | with_reducible exact SO.out _ (Below.refl _ _).drew
       | with_reducible exact SO.out _ ((Below.refl _ _).alloc (Nat.le_refl _) _).drew
       | with_reducible exact SO.out _ (((Below.refl _ _).alloc (Nat.le_refl _) _).alloc (by simp) _).drew
       | with_reducible exact SO.out _ hB6
       | with_reducible exact SO.out _ hB5
       | with_reducible exact SO.out _ (hB5.alloc hB5.size _)
       | fail)
      (first
       | (go_at_call 259; have hB := ‹Hd (Below wr.heap.size wr _) ∧ _›.1; with_reducible refine (CM.out _ _ hB.out (by first | exact (Bk.new_ _ _ _).d1 | exact ((Bk.new_ _ _ _).al _).d1 | exact (Bk.new2 _ _ _ _).d1)).mono ?_; rintro e w5 ⟨x, rfl, hx, hb⟩
          have hB5 := hB.out.trans (hb.mono hB.out.size)
          have hb5 := hb
          obtain ⟨AX, cX, rfl, hcX, _, hrX⟩ := hx.reads
          have HRX := Hd.mk hrX)
       | (go_at_call 258; have hB := ‹Hd (Below wr.heap.size wr _) ∧ _›.1; with_reducible refine (CA.out _ _ _ _ (by first | exact HRX.out | exact HRX.out.up ((Below.refl _ _).alloc (Nat.le_refl _) _)) hcX (by first | exact Bk.new_ _ _ _ | exact (((Bk.new_ wr _ _).al _).d1.up hb5) | exact ((Bk.new2 wr _ _ _).d1.up hb5))).mono ?_; rintro e w6 ⟨y, rfl, hy, hb⟩
          have hB6 := hB.out.trans (hb.mono hB.out.size)
          have HY := Hd.mk (hy.low (Nat.le_trans HB.out.size hB.out.size))
          obtain ⟨AY, cY, rfl, hcY, _, _⟩ := hy.reads))
     all_goals
      have HB6 := Hd.mk (HB.out.trans (hB6.mono HB.out.size))
      clear CM CA SO hbl h8v
      by_cases hbig : 8 < (limbs V2).length
      ·have hbig' : (8 : Int) < (limbs V2).length := by omega
       have HT : Hd (E = (21, [])) := ⟨by rw [← HF2.out]; exact fromF_big (by rw [hV1, hV2]; exact hbig)⟩
       clear hbig hV1 hV2
       go_wp2_with fail
       go_ret2
       rw [HT.out]
       exact ⟨_, rfl, OwnI.nil _ _ _ _, HB6.out⟩
      ·have hbig' : ¬ (8 : Int) < (limbs V2).length := by omega
       have HT : Hd (fromF b V2 (l.take j).reverse = E) := ⟨by rw [← HF2.out, fromF_go (by rw [hV1, hV2]; exact hbig), hV1, hV2]⟩
       have H82 : Hd ((limbs V2).length ≤ 8) := ⟨by omega⟩
       clear hbig hV1 hV2
       go_wp2_with fail
       go_roundw
       case measure => simp [intOf]
       case rel => exact ⟨V2, j, (j : Int) - 1, rfl, rfl, by omega, HY, HB6, HT, H82⟩
end Go.Proofs.YtgjkgkgieeoalaaGreat
namespace Go.Proofs.YtgjkgkgieeoalaaGreat
open Go.RowKit Go.PlainAid
def digsD (s : ByteArray) (n : Nat) : List Int := (List.range n).map fun i => bt s i - 48
def isDig (s : ByteArray) (i : Nat) : Bool := decide (48 ≤ bt s i) && decide (bt s i ≤ 57)
def numD (s : ByteArray) : Int × List Int :=
 if s.size = 0 ∨ (1 < s.size ∧ bt s 0 = 48) then (40, []) else
 if (List.range s.size).all (isDig s) = false then (40, []) else
 if 200 < s.size then (21, []) else fromF 10 0 (digsD s s.size)
theorem num_parse (s : ByteArray) (w : World) (hs : s.size ≤ maxLen) :
    Calls Tryz.prog 269 #[.string s] w fun e w' => ∃ v, e = .returned (.tuple #[v, .int .i64 (numD s).1]) ∧ OwnI w' w.heap.size 112 .u64 v (numD s).2 ∧ Below w.heap.size w w' := by
 unfold maxLen at hs
 obtain ⟨E, hE⟩ : ∃ E, numD s = E := ⟨_, rfl⟩
 rw [hE]
 have HE := Hd.mk hE
 clear hE
 unfold numD at HE
 obtain ⟨i0, hi0, hz0, hz1, hz2⟩ := info_split Tryz.infU64
 by_cases h0 : s.size = 0
 ·have e0 : ((s.size : Int) == 0) = true := by rw [h0]; rfl
  have HT : Hd (E = (40, [])) := ⟨by rw [← HE.out]; exact if_pos (.inl h0)⟩
  clear h0 HE
  go_enter Tryz.func269, Tryz.ntmps269
  go_wp2_with fail
  go_ret2
  rw [HT.out]
  exact ⟨_, rfl, OwnI.nil _ _ _ _, .refl _ _⟩
 have e0 : ((s.size : Int) == 0) = false := by rw [beq_eq_false_iff_ne]; omega
 have hb0 := get_bt s 0 (by omega)
 have h00 : (0 : Int) < s.size := by omega
 have h01 : 0 < s.size := by omega
 by_cases hz : 1 < s.size ∧ bt s 0 = 48
 ·have e1 : (1 : Int) < s.size := by omega
  have e2 : (bt s 0 == 48) = true := by rw [hz.2]; rfl
  have HT : Hd (E = (40, [])) := ⟨by rw [← HE.out]; exact if_pos (.inr hz)⟩
  clear hz HE
  go_enter Tryz.func269, Tryz.ntmps269
  go_wp2_with fail
  go_ret2
  rw [HT.out]
  exact ⟨_, rfl, OwnI.nil _ _ _ _, .refl _ _⟩
 have HE1 := Hd.mk (HE.out.symm.trans (if_neg (by omega)))
 clear HE
 by_cases h1 : 1 < s.size
 case' pos =>
  have e1 : (1 : Int) < s.size := by omega
  have e2 : (bt s 0 == 48) = false := by rw [beq_eq_false_iff_ne]; exact fun h => hz ⟨h1, h⟩
  clear hz h1
  go_enter Tryz.func269, Tryz.ntmps269
  go_wp2_with fail
 case' neg =>
  have e1 : ¬ (1 : Int) < s.size := by omega
  clear hz h1
  go_enter Tryz.func269, Tryz.ntmps269
  go_wp2_with fail
 all_goals
  clear h0 hb0 h00 h01
  go_loop [4] (fun v => ∃ i : Nat, v = .int .i64 i ∧ i ≤ s.size ∧ Hd ((List.range i).all (isDig s) = true)) (fun v => s.size - (intOf v).toNat)
  case atStart => exact ⟨0, rfl, by omega, ⟨rfl⟩⟩
  case round =>
   obtain ⟨i, rfl, hi, ha⟩ := hrel
   by_cases hlt : i < s.size
   ·have i1 : (i : Int) < s.size := by omega
    have i3 : (0 : Int) ≤ i := by omega
    have hb := get_bt s i hlt
    have HN : Hd (isDig s i = false → E = (40, [])) := ⟨fun h => by
     rw [HE1.out, if_pos]
     rw [List.all_eq_false]
     exact ⟨i, List.mem_range.2 hlt, by rw [h]; simp⟩⟩
    have HY : Hd (isDig s i = true → (List.range (i + 1)).all (isDig s) = true) := ⟨fun h => by rw [List.range_succ, List.all_append, ha.out, List.all_cons, h]; rfl⟩
    unfold isDig at HN HY
    by_cases h48 : bt s i < 48
    ·have HT := Hd.mk (HN.out (by rw [decide_eq_false (by omega)]; rfl))
     go_wp2_with fail
     go_ret2
     rw [HT.out]
     exact ⟨_, rfl, OwnI.nil _ _ _ _, .refl _ _⟩
    by_cases h57 : 57 < bt s i
    ·have HT := Hd.mk (HN.out (by rw [decide_eq_false (show ¬ bt s i ≤ 57 by omega), Bool.and_false]))
     go_wp2_with fail
     go_ret2
     rw [HT.out]
     exact ⟨_, rfl, OwnI.nil _ _ _ _, .refl _ _⟩
    ·have HT := Hd.mk (HY.out (by rw [decide_eq_true (by omega), decide_eq_true (by omega)]; rfl))
     go_wp2_with fail
     go_round
     case measure => first | (simp [intOf]; done) | (simp [intOf]; omega)
     case rel => exact ⟨i + 1, by go_num, by omega, by unfold isDig; exact HT⟩
   have i1 : ¬ (i : Int) < s.size := by omega
   obtain rfl : i = s.size := by omega
   have HE2 := Hd.mk (HE1.out.trans (if_neg (by rw [ha.out]; simp)))
   have HDG : Hd (∀ j, j < s.size → 48 ≤ bt s j ∧ bt s j ≤ 57) := ⟨fun j hj => by
    have h1 := List.all_eq_true.1 ha.out j (List.mem_range.2 hj)
    unfold isDig at h1
    simp only [Bool.and_eq_true, decide_eq_true_eq] at h1
    exact h1⟩
   clear ha HE1
   by_cases h200 : 200 < s.size
   ·have h2 : (200 : Int) < s.size := by omega
    have HT := Hd.mk (HE2.out.trans (if_pos h200))
    clear h200
    go_wp2_with fail
    go_ret2
    rw [HT.out]
    exact ⟨_, rfl, OwnI.nil _ _ _ _, .refl _ _⟩
   have h2 : ¬ (200 : Int) < s.size := by omega
   have HE3 := Hd.mk (HE2.out.trans (if_neg h200))
   clear h200
   go_wp2_with fail
   have HO0 : Hd (OwnI (w.alloc (.cells #[] 112)) w.heap.size 112 .u64 (.slice (some ⟨w.heap.size, 0, none⟩) 0 0) []) := ⟨World.ownsRow_lit (e := 112) (size := 1) w #[] 0 (Nat.le_refl _) (by unfold maxLen; omega) rfl⟩
   obtain ⟨D, hD⟩ : ∃ D, digsD s s.size = D := ⟨_, rfl⟩
   have hDl : D.length = s.size := by rw [← hD]; simp [digsD]
   have HDat : Hd (∀ j, j < s.size → D[j]? = some (bt s j - 48)) := ⟨fun j hj => by rw [← hD]; unfold digsD; rw [List.getElem?_map, List.getElem?_range hj]; rfl⟩
   rw [hD] at HE3
   have HDL := Hd.mk hDl
   clear hD hDl
   go_loopw [5, 6] (fun v5 v6 wr => ∃ (i : Nat) (x : Int) (F : List Int), v6 = .int .i64 x ∧ x = (i : Int) - 1 ∧ i ≤ s.size ∧ Hd (OwnI wr w.heap.size 112 .u64 v5 F) ∧ Hd (Below w.heap.size w wr) ∧ Hd (F = (D.drop i).reverse)) (fun _ v _ => (intOf v + 1).toNat)
   case atStart => exact ⟨s.size, _, [], rfl, rfl, Nat.le_refl _, HO0, ⟨(Below.refl _ _).alloc (Nat.le_refl _) _⟩, ⟨by rw [← HDL.out, List.drop_length]; rfl⟩⟩
   case round =>
    clear HO0 i1
    obtain ⟨i, x, F, rfl, hx, hi, HO, HB, HF⟩ := hrel
    have hFl : F.length ≤ 200 := by rw [HF.out, List.length_reverse, List.length_drop, HDL.out]; omega
    have HFl := Hd.mk hFl
    cases i with
    | zero =>
      have hx0 : ¬ (0 : Int) ≤ x := by omega
      obtain ⟨AF, cF, rfl, hcF, _, hrF⟩ := HO.out.reads
      have HFD : Hd (F.reverse = D) := ⟨by rw [HF.out, List.reverse_reverse]; rfl⟩
      have CF := Hd.mk (ref_From AF cF F 10 wr hrF (by omega) (by omega) (by omega) (fun d hd => by
       rw [HF.out] at hd
       have hd2 : d ∈ D := List.mem_of_mem_drop (List.mem_reverse.1 hd)
       obtain ⟨j, hj⟩ := List.mem_iff_getElem?.1 hd2
       have hjl : j < s.size := by have := (List.getElem?_eq_some_iff.1 hj).1; have := HDL.out; omega
       rw [HDat.out j hjl] at hj
       injection hj with hj
       have := HDG.out j hjl
       omega))
      rw [HFD.out, ← HE3.out] at CF
      clear hrF HO hx
      go_wp2_with fail
      refine CF.out.mono ?_
      rintro e w4 ⟨v, rfl, ho, hb⟩
      have HO4 := Hd.mk (ho.low HB.out.size)
      have HB4 := Hd.mk (HB.out.trans (hb.mono HB.out.size))
      clear ho hb CF
      go_wp2_with fail
      go_ret2
      exact ⟨_, rfl, HO4.out, HB4.out⟩
    | succ j =>
      have hx0 : (0 : Int) ≤ x := by omega
      have hxj : x = j := by omega
      subst hxj
      have hjl : j < s.size := by omega
      have j1 : (j : Int) < s.size := by omega
      have hb := get_bt s j hjl
      have hdg := HDG.out j hjl
      have HAT := HDat.out j hjl
      have HF2 : Hd (F ++ [bt s j - 48] = (D.drop j).reverse) := ⟨by
       have hj2 : j < D.length := by rw [HDL.out]; exact hjl
       rw [HF.out, List.drop_eq_getElem_cons hj2]
       rw [List.getElem?_eq_getElem hj2] at HAT
       injection HAT with HAT
       rw [HAT, List.reverse_cons]⟩
      obtain ⟨X, hX⟩ : ∃ X, bt s j - 48 = X := ⟨_, rfl⟩
      have r1 : IntKind.u8.wrap (bt s j - 48) = X := by rw [IntKind.wrap_u8]; omega
      have r2 : IntKind.u64.wrap X = X := by rw [IntKind.wrap_u64]; omega
      rw [hX] at HF2
      have OO := Hd.mk (HO.out.al (.cells #[.int .u64 X] 112))
      have RN := Hd.mk (Rd.new_ wr #[.int .u64 X] 112 1 1 rfl)
      have BB := Hd.mk (HB.out.alloc HB.out.size (.cells #[.int .u64 X] 112))
      have XS := Hd.mk BB.out.size
      have x63 : F.length + 1 ≤ maxLen := by unfold maxLen; omega
      have xby : (F.length + 1) * 8 ≤ 140737488355328 := by omega
      clear HAT hX hx hdg
      go_wp2_with (at_builtin; refine wpList_append_rd _ rfl _ _ 61 rfl w.heap.size 112 i0 (.int .u64 0) 1 8 Tryz.slU64 hi0 hz0 hz1 hz2 rfl (by decide) _ F.length (ints .u64 F) rfl OO.out _ _ 1 _ (ints .u64 [X]) rfl RN.out (ints_one _ _) x63 xby XS.out ?_)
      intro v' w6 ho6 hg6 _
      have O6 := Hd.mk (show OwnI w6 w.heap.size 112 .u64 v' (F ++ [X]) from by unfold OwnI; rw [List.length_append, ints_app]; exact ho6)
      have B6 := Hd.mk (grown_below OO.out hg6 BB.out XS.out)
      clear ho6 hg6
      go_wp2_with fail
      go_roundw
      case measure => simp [intOf]
      case rel => exact ⟨j, _, _, rfl, rfl, by omega, O6, B6, HF2⟩
def runF (s : ByteArray) : Nat → Nat → Nat
 | 0, k => k
 | n + 1, k => if k < s.size ∧ isDig s k = true then runF s n (k + 1) else k
def runD (s : ByteArray) (k : Nat) : Nat := runF s (s.size - k) k
theorem runF_ge (s : ByteArray) : ∀ (n k : Nat), k ≤ runF s n k ∧ runF s n k ≤ max k s.size
 | 0, k => ⟨Nat.le_refl _, by simp [runF]; omega⟩
 | n + 1, k => by
   unfold runF
   split
   ·rename_i h
    have := runF_ge s n (k + 1)
    omega
   ·omega
theorem runD_le {s : ByteArray} {k : Nat} (h : k ≤ s.size) : k ≤ runD s k ∧ runD s k ≤ s.size := by have := runF_ge s (s.size - k) k; unfold runD; omega
theorem runD_go {s : ByteArray} {k : Nat} (h : k < s.size) (hb : isDig s k = true) : runD s k = runD s (k + 1) := by
 unfold runD
 rw [show s.size - k = (s.size - (k + 1)) + 1 by omega]
 conv => lhs; unfold runF
 rw [if_pos ⟨h, hb⟩]
theorem runD_end {s : ByteArray} {k : Nat} (h : ¬ (k < s.size ∧ isDig s k = true)) : runD s k = k := by
 unfold runD
 cases s.size - k with
 | zero => rfl
 | succ n => exact if_neg h
def numberK (s : ByteArray) (k : Nat) : Nat := runD s (skipD s k)
def numberS (s : ByteArray) (k : Nat) : ByteArray := s.extract (skipD s k) (numberK s k)
theorem numberK_le {s : ByteArray} {k : Nat} (h : k ≤ s.size) : numberK s k ≤ s.size := (runD_le (skipD_le h)).2
theorem text_number (s : ByteArray) (k g : Nat) (bad : Bool) (w : World) (hk : Bk w g 244 (tx s k bad)) (hs : s.size ≤ maxLen) (hks : k ≤ s.size) :
    Calls Tryz.prog 315 #[.pointer (some ⟨g, 0, none⟩)] w fun e w' => e = .returned (.string (numberS s k)) ∧ Bk w' g 244 (tx s (numberK s k) (bad || (numD (numberS s k)).1 == 40)) ∧ w.grownBy w' (some g) := by
 have CS := Hd.mk (text_skip s k g bad w hk hs hks)
 have hle := skipD_le hks
 have CP := Hd.mk (fun W => num_parse (numberS s k) W (by
  unfold numberS
  rw [ByteArray.size_extract]
  have := numberK_le hks
  omega))
 unfold maxLen at hs
 obtain ⟨NS, hNS⟩ : ∃ NS, numberS s k = NS := ⟨_, rfl⟩
 obtain ⟨NK, hNK⟩ : ∃ NK, numberK s k = NK := ⟨_, rfl⟩
 have HNS := Hd.mk hNS
 have HNK := Hd.mk hNK
 unfold numberS at HNS
 rw [hNK] at HNS
 unfold numberK at HNK
 rw [hNS, hNK]
 rw [hNS] at CP
 obtain ⟨f, hf⟩ : ∃ f, skipD s k = f := ⟨_, rfl⟩
 rw [hf] at CS hle HNS HNK
 have hfn : f ≤ NK ∧ NK ≤ s.size := by rw [← HNK.out]; exact runD_le hle
 clear hk hf hks hNS hNK
 go_enter Tryz.func315, Tryz.ntmps315
 go_wp2_with fail
 refine CS.out.mono ?_
 rintro e w2 ⟨rfl, hB, hG⟩
 have HB := Hd.mk hB
 have HG := Hd.mk hG
 obtain ⟨q0, q1, q2⟩ := hB.three
 clear CS hB hG
 go_wp2_with fail
 go_loopg [16] (s.size - f) (fun n _ wr => ∃ i : Nat, n = s.size - i ∧ i ≤ s.size ∧ Hd (Bk wr g 244 (tx s i bad)) ∧ Hd (w.grownBy wr (some g)) ∧ Hd (runD s i = NK))
 case atStart => exact ⟨f, rfl, hle, HB, HG, HNK⟩
 case round =>
  clear q0 q1 q2 HB HG HNK
  obtain ⟨i, hn, hi, HB, HG, HE⟩ := hrel
  obtain ⟨q0, q1, q2⟩ := HB.out.three
  have fz := fun i => HB.out.froz i
  by_cases hlt : i < s.size
  ·have i1 : (i : Int) < s.size := by omega
   have i0 : (0 : Int) ≤ i := by omega
   have hb := get_bt s i hlt
   have CD := Hd.mk (ref_digit (bt s i))
   cases hdg : isDig s i
   ·have HN : Hd (i = NK) := ⟨by rw [← HE.out]; exact (runD_end (fun h => by rw [hdg] at h; exact absurd h.2 (by simp))).symm⟩
    unfold isDig at hdg
    rw [hdg] at CD
    clear hdg
    go_wp2_with fail
    go_quiet ((go_at_call 322; first | exact quiet_two CD.out | exact quiet_one CD.out))
    go_wp2_with fail
    obtain rfl : i = NK := HN.out
    have hx := HNS.out
    have f0 : f ≤ i := by omega
    go_quiet (fail)
    go_wp2_with fail
    refine (CP.out _).mono ?_
    rintro e w5 ⟨v, rfl, ho, hb5⟩
    obtain ⟨Av, cv, rfl, -, -, -⟩ := ho.reads
    have HB5 := Hd.mk ((HB.out.dn _).up hb5)
    have HG5 := Hd.mk (gb_trans (gb_dn HG.out _) (gb_of hb5))
    have fz5 := fun i => HB5.out.froz i
    obtain ⟨p0, p1, p2⟩ := HB5.out.three
    clear ho hb5 CP hx
    by_cases h40 : (numD NS).1 = 40
    ·have e40 : ((numD NS).1 == 40) = true := by rw [h40]; rfl
     have HE40 := Hd.mk e40
     clear h40
     go_wp2_with fail
     go_ret
     rw [HE40.out, Bool.or_true]
     exact ⟨rfl, HB5.out.set_ 2 _, HG5.out.set 2 _⟩
    ·have e40 : ((numD NS).1 == 40) = false := by rw [beq_eq_false_iff_ne]; exact h40
     have HE40 := Hd.mk e40
     clear h40
     go_wp2_with fail
     go_ret
     rw [HE40.out, Bool.or_false]
     exact ⟨rfl, HB5.out, HG5.out⟩
   ·have HN : Hd (runD s (i + 1) = NK) := ⟨by rw [← HE.out]; exact (runD_go hlt hdg).symm⟩
    unfold isDig at hdg
    rw [hdg] at CD
    clear hdg
    go_wp2_with fail
    go_quiet ((go_at_call 322; first | exact quiet_two CD.out | exact quiet_one CD.out))
    go_wp2_with fail
    go_roundg (s.size - (i + 1))
    case measure => omega
    case rel => exact ⟨i + 1, rfl, by omega, ⟨(HB.out.dn _).set_ 1 _⟩, ⟨(gb_dn HG.out _).set 1 _⟩, HN⟩
  ·have i1 : ¬ (i : Int) < s.size := by omega
   have HN : Hd (i = NK) := ⟨by rw [← HE.out]; exact (runD_end (fun h => hlt h.1)).symm⟩
   go_wp2_with fail
   go_quiet (fail)
   go_wp2_with fail
   obtain rfl : i = NK := HN.out
   have hx := HNS.out
   have f0 : f ≤ i := by omega
   go_quiet (fail)
   go_wp2_with fail
   refine (CP.out _).mono ?_
   rintro e w5 ⟨v, rfl, ho, hb5⟩
   obtain ⟨Av, cv, rfl, -, -, -⟩ := ho.reads
   have HB5 := Hd.mk ((HB.out.dn _).up hb5)
   have HG5 := Hd.mk (gb_trans (gb_dn HG.out _) (gb_of hb5))
   have fz5 := fun i => HB5.out.froz i
   obtain ⟨p0, p1, p2⟩ := HB5.out.three
   clear ho hb5 CP hx
   by_cases h40 : (numD NS).1 = 40
   ·have e40 : ((numD NS).1 == 40) = true := by rw [h40]; rfl
    have HE40 := Hd.mk e40
    clear h40
    go_wp2_with fail
    go_ret
    rw [HE40.out, Bool.or_true]
    exact ⟨rfl, HB5.out.set_ 2 _, HG5.out.set 2 _⟩
   ·have e40 : ((numD NS).1 == 40) = false := by rw [beq_eq_false_iff_ne]; exact h40
    have HE40 := Hd.mk e40
    clear h40
    go_wp2_with fail
    go_ret
    rw [HE40.out, Bool.or_false]
    exact ⟨rfl, HB5.out, HG5.out⟩
end Go.Proofs.YtgjkgkgieeoalaaGreat
