/- Parts of the proof, joined: what each says stands at its head. -/
import Derived.Test.YtjanagclahkfdaaGreatM29
import Derived.Test.YtjanagclahkfdaaGreatM22
import Derived.Test.YtjanagclahkfdaaGreatM04
import Derived.Deep.QuietTactic
import Derived.PlainAid
set_option linter.unusedVariables false
set_option linter.unusedSimpArgs false
set_option maxHeartbeats 24000000
set_option maxRecDepth 100000
namespace Go.Proofs.YtjanagclahkfdaaGreat
open Go.RowKit
section
variable {P : Program} {ops : Array Oper} {Q : Exit → Act → World → Prop} {md : Region.Mode} {n : Nat}
theorem wpAnyX_true : ∀ (fuel : Nat) (listed : Array Bool) (a : Act) (w : World), wpAny P md ops Q fuel listed a w → wpAnyX P md ops Q (fun _ => True) n fuel listed a w
 | 0, _, _, _, h => h
 | fuel + 1, _, _, _, h => ⟨h.1, fun i hi => wpOp_mono (fun a' w' h' => ⟨fun _ => trivial, wpAnyX_true fuel _ a' w' h'⟩) (h.2 i hi)⟩
def midB (ops : Array Oper) : Bool :=
 let l0 := Array.replicate ops.size false
 let l1 := l0.setIfInBounds 0 true
 let l2 := l1.setIfInBounds 2 true
 let l3 := l2.setIfInBounds 1 true
 Region.noSelect ops && decide (3 ≤ ops.size) && Region.free .any ops l0 0 && (Region.ready .any ops l0).contains 0 && Region.free .any ops l1 2 && (Region.ready .any ops l1).contains 2 && decide (Region.ready .any ops l2 = [1]) && Region.lexFrom .any ops (ops.size - 3) 3 l3
theorem wp_region_mid {id : Nat} {a : Act} {w : World} {o0 o1 o2 : Oper} {l : List Oper} (hm : P.follows .mixedOrders = true) (hB : midB (o0 :: o1 :: o2 :: l).toArray = true) (hQ : ∀ c a d v w, Q (.panic c) (a.put d v) w → Q (.panic c) a w) (v0 v2 : Value) (hg : o1.guard = none)
    (h0 : YieldsIf P (o0 :: o1 :: o2 :: l).toArray (fun _ => True) o0 v0 a) (h2 : YieldsIf P (o0 :: o1 :: o2 :: l).toArray (fun _ => True) o2 v2 (a.put o0.dst v0))
    (h1 : ∀ K : Act → World → Prop, (∀ a' w', (∃ C : World → Prop, C w' ∧ wpQuiet P (o0 :: o1 :: o2 :: l).toArray C (fun a'' => ∀ w'', C w'' → Q .normal a'' w'') l a') → K a' w') → o1.wp P ((a.put o0.dst v0).put o2.dst v2) w.drew K Q) :
    (Code.region id (o0 :: o1 :: o2 :: l).toArray true).wp P Q a w := by
 unfold midB at hB
 simp only [Bool.and_eq_true, decide_eq_true_eq, List.contains_iff_mem] at hB
 obtain ⟨⟨⟨⟨⟨⟨⟨hsel, hsz⟩, f0⟩, r0⟩, f2⟩, r2⟩, r1⟩, hlex⟩ := hB
 have hsize : (o0 :: o1 :: o2 :: l).toArray.size = l.length + 3 := by simp
 refine wp_region_any hm (wpAny_of_X (S := fun _ => True) (n := (o0 :: o1 :: o2 :: l).toArray.size) _ _ _ _ ?_)
 have e0 : (o0 :: o1 :: o2 :: l).toArray[0]? = some o0 := by simp
 have e1 : (o0 :: o1 :: o2 :: l).toArray[1]? = some o1 := by simp
 have e2 : (o0 :: o1 :: o2 :: l).toArray[2]? = some o2 := by simp
 refine (show wpAnyX P _ _ _ _ _ (l.length + 3) _ _ _ from ?_)
 refine wpAnyX_first e0 (Region.noSelect_spec hsel) (fun c a w h => hQ c a _ _ w h) (fun j hj hj2 => absurd hj2 (Nat.not_lt.2 hj)) (l.length + 2) _ a w.drew (Region.free_spec e0 f0) r0 h0 trivial ?_
 refine wpAnyX_first e2 (Region.noSelect_spec hsel) (fun c a w h => hQ c a _ _ w h) (fun j hj hj2 => absurd hj2 (Nat.not_lt.2 hj)) (l.length + 1) _ _ _ (Region.free_spec e2 f2) r2 h2 trivial ?_
 refine wpAnyX_true _ _ _ _ ⟨fun h => (by rw [r1] at h; cases h), fun i hi => ?_⟩
 rw [r1, List.mem_singleton] at hi
 subst hi
 unfold wpOp
 simp only [e1, Region.wanted, hg, if_true]
 refine .inl (h1 _ fun a' w' hC => ?_)
 obtain ⟨C, hw, hq⟩ := hC
 refine wpAny_of_quiet (C := C) (Q := fun a'' => ∀ w'', C w'' → Q .normal a'' w'') (fun a'' w'' hw'' h => h w'' hw'') _ _ _ _ hw ?_
 exact wpAnyQ_lex hsel l 3 _ _ (fun j => by simp [Nat.add_comm 3 j]) (by simpa using hlex) hq
end
end Go.Proofs.YtjanagclahkfdaaGreat
namespace Go.Proofs.YtjanagclahkfdaaGreat
open Go.RowKit Go.PlainAid
theorem gb_trans {w w' w'' : World} {row : Option Nat} (h : w.grownBy w' row) (k : w'.grownBy w'' row) : w.grownBy w'' row :=
 ⟨k.os.trans h.os, k.tape.trans h.tape, k.output.trans h.output, Nat.le_trans h.size k.size, fun b hb hne => (k.block b (Nat.lt_of_lt_of_le hb h.size) hne).trans (h.block b hb hne)⟩
theorem gb_of {w w' : World} {row : Option Nat} (h : Below w.heap.size w w') : w.grownBy w' row := ⟨h.os, h.tape, h.output, h.size, fun b hb _ => h.block b hb⟩
theorem gb_dn {w w' : World} {row : Option Nat} (h : w.grownBy w' row) (n : Nat) : w.grownBy (w'.drewN n) row := ⟨h.os, h.tape, h.output, h.size, h.block⟩
def tx (s : ByteArray) (at_ : Nat) (bad : Bool) : Array Value := #[.string s, .int .i64 at_, .bool bad]
def skipF (s : ByteArray) : Nat → Nat → Nat
 | 0, k => k
 | n + 1, k => if k < s.size ∧ bt s k = 32 then skipF s n (k + 1) else k
def skipD (s : ByteArray) (k : Nat) : Nat := skipF s (s.size - k) k
theorem skipF_ge (s : ByteArray) : ∀ (n k : Nat), k ≤ skipF s n k ∧ skipF s n k ≤ max k s.size
 | 0, k => ⟨Nat.le_refl _, by simp [skipF]; omega⟩
 | n + 1, k => by
   unfold skipF
   split
   ·rename_i h
    have := skipF_ge s n (k + 1)
    omega
   ·omega
theorem skipD_le {s : ByteArray} {k : Nat} (h : k ≤ s.size) : skipD s k ≤ s.size := by have := (skipF_ge s (s.size - k) k).2; unfold skipD; omega
theorem skipD_go {s : ByteArray} {k : Nat} (h : k < s.size) (hb : bt s k = 32) : skipD s k = skipD s (k + 1) := by
 unfold skipD
 rw [show s.size - k = (s.size - (k + 1)) + 1 by omega]
 conv => lhs; unfold skipF
 rw [if_pos ⟨h, hb⟩]
theorem skipD_end {s : ByteArray} {k : Nat} (h : ¬ (k < s.size ∧ bt s k = 32)) : skipD s k = k := by
 unfold skipD
 cases s.size - k with
 | zero => rfl
 | succ n => exact if_neg h
theorem text_skip (s : ByteArray) (k g : Nat) (bad : Bool) (w : World) (hk : Bk w g 131 (tx s k bad)) (hs : s.size ≤ maxLen) (hks : k ≤ s.size) :
    Calls Tryz.prog 173 #[.pointer (some ⟨g, 0, none⟩)] w fun e w' => e = .returned (.tuple #[]) ∧ Bk w' g 131 (tx s (skipD s k) bad) ∧ w.grownBy w' (some g) := by
 unfold maxLen at hs
 have HK := Hd.mk hk
 clear hk
 go_enter Tryz.func173, Tryz.ntmps173
 go_wp2_with fail
 go_loopg [5] (s.size - k) (fun n _ wr => ∃ i : Nat, n = s.size - i ∧ i ≤ s.size ∧ Hd (Bk wr g 131 (tx s i bad)) ∧ Hd (w.grownBy wr (some g)) ∧ Hd (skipD s k = skipD s i))
 case atStart => exact ⟨k, rfl, hks, HK, ⟨gb_of (Below.refl _ _)⟩, ⟨rfl⟩⟩
 case round =>
  obtain ⟨i, hn, hi, HB, HG, HE⟩ := hrel
  obtain ⟨q0, q1, q2⟩ := HB.out.three
  have fz := fun i => HB.out.froz i
  by_cases hlt : i < s.size
  ·have i1 : (i : Int) < s.size := by omega
   have i0 : (0 : Int) ≤ i := by omega
   have hb := get_bt s i hlt
   by_cases h32 : bt s i = 32
   ·have e1 : (bt s i == 32) = true := by rw [h32]; rfl
    have HN := Hd.mk (HE.out.trans (skipD_go hlt h32))
    clear h32
    go_wp2_with fail
    go_quiet (fail)
    go_wp2_with fail
    go_roundg (s.size - (i + 1))
    case measure => omega
    case rel => exact ⟨i + 1, rfl, by omega, ⟨(HB.out.dn nq).set_ 1 _⟩, ⟨(gb_dn HG.out nq).set 1 _⟩, HN⟩
   ·have e1 : (bt s i == 32) = false := by rw [beq_eq_false_iff_ne]; exact h32
    have HN := Hd.mk (HE.out.trans (skipD_end (fun h => h32 h.2)))
    clear h32
    go_wp2_with fail
    go_quiet (fail)
    go_wp2_with fail
    go_end0
    rw [HN.out]
    exact ⟨rfl, HB.out.dn nq, gb_dn HG.out nq⟩
  ·have i1 : ¬ (i : Int) < s.size := by omega
   have HN := Hd.mk (HE.out.trans (skipD_end (fun h => hlt h.1)))
   go_wp2_with fail
   go_quiet (fail)
   go_wp2_with fail
   go_end0
   rw [HN.out]
   exact ⟨rfl, HB.out.dn nq, gb_dn HG.out nq⟩
theorem text_next (s : ByteArray) (k g : Nat) (bad : Bool) (w : World) (hk : Bk w g 131 (tx s k bad)) (hs : s.size ≤ maxLen) (hks : k ≤ s.size) :
    Calls Tryz.prog 144 #[.pointer (some ⟨g, 0, none⟩)] w fun e w' => e = .returned (.int .u8 (bt s (skipD s k))) ∧ Bk w' g 131 (tx s (skipD s k) bad) ∧ w.grownBy w' (some g) := by
 have CS := Hd.mk (text_skip s k g bad w hk hs hks)
 unfold maxLen at hs
 have hle := skipD_le hks
 obtain ⟨i, hi⟩ : ∃ i, skipD s k = i := ⟨_, rfl⟩
 rw [hi] at CS hle ⊢
 clear hk hi hks
 go_enter Tryz.func144, Tryz.ntmps144
 go_wp2_with fail
 refine CS.out.mono ?_
 rintro e w2 ⟨rfl, hB, hG⟩
 have HB := Hd.mk hB
 have HG := Hd.mk hG
 obtain ⟨q0, q1, q2⟩ := hB.three
 clear CS hB hG
 by_cases hlt : i < s.size
 ·have i1 : (i : Int) < s.size := by omega
  have i0 : (0 : Int) ≤ i := by omega
  have hb := get_bt s i hlt
  go_wp2_with fail
  go_quiet (fail)
  go_wp2_with fail
  go_quiet (fail)
  go_wp2_with fail
  go_ret
  exact ⟨rfl, (HB.out.dn _).dn _, gb_dn (gb_dn HG.out _) _⟩
 ·have i1 : ¬ (i : Int) < s.size := by omega
  have hb := bt_end s (Nat.le_of_not_lt hlt)
  go_wp2_with fail
  go_quiet (fail)
  go_wp2_with fail
  go_ret
  rw [hb]
  exact ⟨rfl, HB.out.dn _, gb_dn HG.out _⟩
def eatB (s : ByteArray) (k : Nat) (c : Int) : Bool := bt s (skipD s k) == c && decide (skipD s k < s.size)
def eatK (s : ByteArray) (k : Nat) (c : Int) : Nat := if eatB s k c = true then skipD s k + 1 else skipD s k
theorem eatK_le {s : ByteArray} {k : Nat} {c : Int} (h : k ≤ s.size) : eatK s k c ≤ s.size := by
 have := skipD_le h
 unfold eatK
 split
 ·rename_i h2
  unfold eatB at h2
  simp only [Bool.and_eq_true, decide_eq_true_eq] at h2
  omega
 ·exact this
theorem text_eat (s : ByteArray) (k g : Nat) (bad : Bool) (c : Int) (w : World) (hk : Bk w g 131 (tx s k bad)) (hs : s.size ≤ maxLen) (hks : k ≤ s.size) :
    Calls Tryz.prog 143 #[.pointer (some ⟨g, 0, none⟩), .int .u8 c] w fun e w' => e = .returned (.bool (eatB s k c)) ∧ Bk w' g 131 (tx s (eatK s k c) bad) ∧ w.grownBy w' (some g) := by
 have CS := Hd.mk (fun W (hW : Bk W g 131 (tx s k bad)) => text_next s k g bad W hW hs hks)
 have HK := Hd.mk hk
 unfold maxLen at hs
 have hle := skipD_le hks
 obtain ⟨B, hB⟩ : ∃ B, eatB s k c = B := ⟨_, rfl⟩
 obtain ⟨KK, hK⟩ : ∃ KK, eatK s k c = KK := ⟨_, rfl⟩
 have HB := Hd.mk hB
 have HKK := Hd.mk hK
 rw [hB, hK]
 unfold eatK at HKK
 rw [hB] at HKK
 unfold eatB at HB
 obtain ⟨i, hi⟩ : ∃ i, skipD s k = i := ⟨_, rfl⟩
 rw [hi] at CS hle HB HKK
 clear hk hi hks hB hK
 by_cases hc : bt s i = c
 ·by_cases hlt : i < s.size
  ·have i1 : ¬ (s.size : Int) ≤ i := by omega
   have e1 : (bt s i != c) = false := by rw [bne_eq_false_iff_eq]; exact hc
   have hBt : Hd (B = true) := ⟨by rw [← HB.out, hc, decide_eq_true hlt]; simp⟩
   have hKt : Hd (KK = i + 1) := ⟨by rw [← HKK.out, hBt.out]; exact if_pos rfl⟩
   clear hc HB HKK
   go_enter Tryz.func143, Tryz.ntmps143
   go_wp2_with fail
   refine wp_region_mid (by kernel_rfl) (by kernel_rfl) (fun c a d v w h => by cases d <;> exact h) (.pointer (some ⟨g, 0, none⟩)) (.int .u8 c) rfl (Or.inl ⟨by rfl, fun W _ => by go_simp; try with_reducible rfl⟩) (Or.inl ⟨by rfl, fun W _ => by go_simp; try with_reducible rfl⟩) ?_
   intro K hK
   simp only [Act.put, List.setIfInBounds_toArray, List.set_cons_zero, List.set_cons_succ]
   go_simp
   refine (CS.out _ HK.out.d1).mono ?_
   rintro e w2 ⟨rfl, hb2, hG⟩
   have HB2 := Hd.mk hb2
   have HG := Hd.mk hG
   obtain ⟨q0, q1, q2⟩ := hb2.three
   refine hK _ _ ⟨fun W => ∃ n, W = w2.drewN n, ⟨0, rfl⟩, ?_⟩
   clear hK K hb2 hG CS
   repeat (go_big_quiet_step (fail))
   refine wpQuiet_nil fun W hW => ?_
   obtain ⟨nq, rfl⟩ := hW
   have fz := fun i => HB2.out.froz i
   go_wp2_with fail
   go_ret
   rw [hBt.out, hKt.out]
   exact ⟨rfl, (HB2.out.dn nq).set_ 1 _, gb_trans (gb_dn (gb_of (Below.refl _ _)) 1) ((gb_dn HG.out nq).set 1 _)⟩
  ·have i1 : (s.size : Int) ≤ i := by omega
   have e1 : (bt s i != c) = false := by rw [bne_eq_false_iff_eq]; exact hc
   have hBt : Hd (B = false) := ⟨by rw [← HB.out, decide_eq_false hlt, Bool.and_false]⟩
   have hKt : Hd (KK = i) := ⟨by rw [← HKK.out, hBt.out]; exact if_neg (by simp)⟩
   clear hc HB HKK
   go_enter Tryz.func143, Tryz.ntmps143
   go_wp2_with fail
   refine wp_region_mid (by kernel_rfl) (by kernel_rfl) (fun c a d v w h => by cases d <;> exact h) (.pointer (some ⟨g, 0, none⟩)) (.int .u8 c) rfl (Or.inl ⟨by rfl, fun W _ => by go_simp; try with_reducible rfl⟩) (Or.inl ⟨by rfl, fun W _ => by go_simp; try with_reducible rfl⟩) ?_
   intro K hK
   simp only [Act.put, List.setIfInBounds_toArray, List.set_cons_zero, List.set_cons_succ]
   go_simp
   refine (CS.out _ HK.out.d1).mono ?_
   rintro e w2 ⟨rfl, hb2, hG⟩
   have HB2 := Hd.mk hb2
   have HG := Hd.mk hG
   obtain ⟨q0, q1, q2⟩ := hb2.three
   refine hK _ _ ⟨fun W => ∃ n, W = w2.drewN n, ⟨0, rfl⟩, ?_⟩
   clear hK K hb2 hG CS
   repeat (go_big_quiet_step (fail))
   refine wpQuiet_nil fun W hW => ?_
   obtain ⟨nq, rfl⟩ := hW
   go_wp2_with fail
   go_ret
   rw [hBt.out, hKt.out]
   exact ⟨rfl, HB2.out.dn nq, gb_trans (gb_dn (gb_of (Below.refl _ _)) 1) (gb_dn HG.out nq)⟩
 ·have e1 : (bt s i != c) = true := by rw [bne_iff_ne]; exact hc
  have hBt : Hd (B = false) := ⟨by rw [← HB.out, beq_eq_false_iff_ne.2 hc, Bool.false_and]⟩
  have hKt : Hd (KK = i) := ⟨by rw [← HKK.out, hBt.out]; exact if_neg (by simp)⟩
  clear hc HB HKK
  go_enter Tryz.func143, Tryz.ntmps143
  go_wp2_with fail
  refine wp_region_mid (by kernel_rfl) (by kernel_rfl) (fun c a d v w h => by cases d <;> exact h) (.pointer (some ⟨g, 0, none⟩)) (.int .u8 c) rfl (Or.inl ⟨by rfl, fun W _ => by go_simp; try with_reducible rfl⟩) (Or.inl ⟨by rfl, fun W _ => by go_simp; try with_reducible rfl⟩) ?_
  intro K hK
  simp only [Act.put, List.setIfInBounds_toArray, List.set_cons_zero, List.set_cons_succ]
  go_simp
  refine (CS.out _ HK.out.d1).mono ?_
  rintro e w2 ⟨rfl, hb2, hG⟩
  have HB2 := Hd.mk hb2
  have HG := Hd.mk hG
  obtain ⟨q0, q1, q2⟩ := hb2.three
  refine hK _ _ ⟨fun W => ∃ n, W = w2.drewN n, ⟨0, rfl⟩, ?_⟩
  clear hK K hb2 hG CS
  repeat (go_big_quiet_step (fail))
  refine wpQuiet_nil fun W hW => ?_
  obtain ⟨nq, rfl⟩ := hW
  go_wp2_with fail
  go_ret
  rw [hBt.out, hKt.out]
  exact ⟨rfl, HB2.out.dn nq, gb_trans (gb_dn (gb_of (Below.refl _ _)) 1) (gb_dn HG.out nq)⟩
theorem ref_digit (c : Int) (w : World) :
    Calls Tryz.prog 198 #[.int .u8 c] w fun e w' => e = .returned (.bool (decide (48 ≤ c) && decide (c ≤ 57))) ∧ w = w' := by
 by_cases h1 : (48 : Int) ≤ c
 ·by_cases h2 : c ≤ 57
  ·have e : (decide (48 ≤ c) && decide (c ≤ 57)) = true := by rw [decide_eq_true h1, decide_eq_true h2]; rfl
   rw [e]
   clear e
   go_enter Tryz.func198, Tryz.ntmps198
   go_wp2_with fail
   go_ret
   exact ⟨rfl, rfl⟩
  ·have e : (decide (48 ≤ c) && decide (c ≤ 57)) = false := by rw [decide_eq_false h2, Bool.and_false]
   rw [e]
   clear e
   go_enter Tryz.func198, Tryz.ntmps198
   go_wp2_with fail
   go_ret
   exact ⟨rfl, rfl⟩
 ·have e : (decide (48 ≤ c) && decide (c ≤ 57)) = false := by rw [decide_eq_false h1, Bool.false_and]
  rw [e]
  clear e
  go_enter Tryz.func198, Tryz.ntmps198
  go_wp2_with fail
  go_ret
  exact ⟨rfl, rfl⟩
def varD (c : Int) : Int := if c = 120 then 0 else if c = 121 then 1 else if c = 122 then 2 else if c = 119 then 3 else -1
theorem ref_variable (c : Int) (w : World) :
    Calls Tryz.prog 189 #[.int .u8 c] w fun e w' => e = .returned (.int .i64 (varD c)) ∧ w = w' := by
 have n0 : (((⟨#[120, 121, 122, 119]⟩ : ByteArray)[0]'(by decide)).toNat : Int) = 120 := rfl
 have n1 : (((⟨#[120, 121, 122, 119]⟩ : ByteArray)[1]'(by decide)).toNat : Int) = 121 := rfl
 have n2 : (((⟨#[120, 121, 122, 119]⟩ : ByteArray)[2]'(by decide)).toNat : Int) = 122 := rfl
 have n3 : (((⟨#[120, 121, 122, 119]⟩ : ByteArray)[3]'(by decide)).toNat : Int) = 119 := rfl
 obtain ⟨V, hV⟩ : ∃ V, varD c = V := ⟨_, rfl⟩
 rw [hV]
 have HV := Hd.mk hV
 unfold varD at HV
 clear hV
 go_enter Tryz.func189, Tryz.ntmps189
 go_wp2_with fail
 go_loop [3] (fun v => ∃ i : Nat, v = .int .i64 i ∧ i ≤ 4 ∧ Hd (0 < i → c ≠ 120) ∧ Hd (1 < i → c ≠ 121) ∧ Hd (2 < i → c ≠ 122) ∧ Hd (3 < i → c ≠ 119)) (fun v => 4 - (intOf v).toNat)
 case atStart => exact ⟨0, rfl, by omega, ⟨fun h => by omega⟩, ⟨fun h => by omega⟩, ⟨fun h => by omega⟩, ⟨fun h => by omega⟩⟩
 case round =>
  obtain ⟨i, rfl, hi, h0, h1, h2, h3⟩ := hrel
  rcases (show i = 0 ∨ i = 1 ∨ i = 2 ∨ i = 3 ∨ i = 4 by omega) with rfl | rfl | rfl | rfl | rfl
  ·by_cases hc : c = 120
   ·have e : ((120 : Int) == c) = true := by rw [hc]; rfl
    have HT : Hd (V = 0) := ⟨by rw [← HV.out, if_pos hc]⟩
    clear hc
    go_wp2_with fail
    go_ret
    rw [HT.out]
    exact ⟨rfl, rfl⟩
   ·have e : ((120 : Int) == c) = false := by rw [beq_eq_false_iff_ne]; exact fun h => hc h.symm
    have HC := Hd.mk hc
    clear hc
    go_wp2_with fail
    go_round
    case measure => first | (simp [intOf]; done) | (simp [intOf]; omega)
    case rel => exact ⟨1, rfl, by omega, ⟨fun _ => HC.out⟩, ⟨fun h => by omega⟩, ⟨fun h => by omega⟩, ⟨fun h => by omega⟩⟩
  ·by_cases hc : c = 121
   ·have e : ((121 : Int) == c) = true := by rw [hc]; rfl
    have HT : Hd (V = 1) := ⟨by rw [← HV.out, if_neg (h0.out (by omega)), if_pos hc]⟩
    clear hc
    go_wp2_with fail
    go_ret
    rw [HT.out]
    exact ⟨rfl, rfl⟩
   ·have e : ((121 : Int) == c) = false := by rw [beq_eq_false_iff_ne]; exact fun h => hc h.symm
    have HC := Hd.mk hc
    clear hc
    go_wp2_with fail
    go_round
    case measure => first | (simp [intOf]; done) | (simp [intOf]; omega)
    case rel => exact ⟨2, rfl, by omega, ⟨fun _ => h0.out (by omega)⟩, ⟨fun _ => HC.out⟩, ⟨fun h => by omega⟩, ⟨fun h => by omega⟩⟩
  ·by_cases hc : c = 122
   ·have e : ((122 : Int) == c) = true := by rw [hc]; rfl
    have HT : Hd (V = 2) := ⟨by rw [← HV.out, if_neg (h0.out (by omega)), if_neg (h1.out (by omega)), if_pos hc]⟩
    clear hc
    go_wp2_with fail
    go_ret
    rw [HT.out]
    exact ⟨rfl, rfl⟩
   ·have e : ((122 : Int) == c) = false := by rw [beq_eq_false_iff_ne]; exact fun h => hc h.symm
    have HC := Hd.mk hc
    clear hc
    go_wp2_with fail
    go_round
    case measure => first | (simp [intOf]; done) | (simp [intOf]; omega)
    case rel => exact ⟨3, rfl, by omega, ⟨fun _ => h0.out (by omega)⟩, ⟨fun _ => h1.out (by omega)⟩, ⟨fun _ => HC.out⟩, ⟨fun h => by omega⟩⟩
  ·by_cases hc : c = 119
   ·have e : ((119 : Int) == c) = true := by rw [hc]; rfl
    have HT : Hd (V = 3) := ⟨by rw [← HV.out, if_neg (h0.out (by omega)), if_neg (h1.out (by omega)), if_neg (h2.out (by omega)), if_pos hc]⟩
    clear hc
    go_wp2_with fail
    go_ret
    rw [HT.out]
    exact ⟨rfl, rfl⟩
   ·have e : ((119 : Int) == c) = false := by rw [beq_eq_false_iff_ne]; exact fun h => hc h.symm
    have HC := Hd.mk hc
    clear hc
    go_wp2_with fail
    go_round
    case measure => first | (simp [intOf]; done) | (simp [intOf]; omega)
    case rel => exact ⟨4, rfl, by omega, ⟨fun _ => h0.out (by omega)⟩, ⟨fun _ => h1.out (by omega)⟩, ⟨fun _ => h2.out (by omega)⟩, ⟨fun _ => HC.out⟩⟩
  ·have HT : Hd (V = -1) := ⟨by rw [← HV.out, if_neg (h0.out (by omega)), if_neg (h1.out (by omega)), if_neg (h2.out (by omega)), if_neg (h3.out (by omega))]⟩
   go_wp2_with fail
   go_ret
   rw [HT.out]
   exact ⟨rfl, rfl⟩
end Go.Proofs.YtjanagclahkfdaaGreat
