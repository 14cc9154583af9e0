/- Parts of the proof, joined: each theorem says what it shows. -/
import Derived.Test.YtgjkgkgieeoalaaGreatF01
import Derived.Test.YtgjkgkgieeoalaaGreatF08
import Derived.IntWalk
set_option linter.unusedVariables false
set_option linter.unusedSimpArgs false
set_option maxHeartbeats 24000000
set_option maxRecDepth 100000
namespace Go.Proofs.YtgjkgkgieeoalaaGreat
open Go.RowKit
structure Dif (x y b T1 T2 S P Q C : Int) : Prop where
 s : S = x + 4294967296 - y - b
 p : P = (x + 4294967296 - y - b) % 4294967296
 c : C = 1 - (x + 4294967296 - y - b) / 4294967296
theorem Dif.mk' {x y b T1 T2 S P Q C : Int} (hx : 0 ≤ x ∧ x < 4294967296) (hy : 0 ≤ y ∧ y < 4294967296) (hb : 0 ≤ b ∧ b ≤ 1) (r1 : IntKind.u64.wrap (x + 4294967296) = T1) (r2 : IntKind.u64.wrap (T1 - y) = T2) (r3 : IntKind.u64.wrap (T2 - b) = S)
    (r4 : S.tmod 4294967296 = P) (r5 : IntKind.u64.wrap (S.tdiv 4294967296) = Q) (r6 : IntKind.u64.wrap (1 - Q) = C) : Dif x y b T1 T2 S P Q C := by
 have e1 : T1 = x + 4294967296 := by rw [← r1]; simp [IntKind.wrap, IntKind.bits, IntKind.signed]; omega
 have e2 : T2 = x + 4294967296 - y := by rw [← r2, e1]; simp [IntKind.wrap, IntKind.bits, IntKind.signed]; omega
 have e3 : S = x + 4294967296 - y - b := by rw [← r3, e2]; simp [IntKind.wrap, IntKind.bits, IntKind.signed]; omega
 have e4 : Q = (x + 4294967296 - y - b) / 4294967296 := by
  rw [← r5, e3, Int.tdiv_eq_ediv_of_nonneg (by omega)]
  simp [IntKind.wrap, IntKind.bits, IntKind.signed]
  omega
 refine ⟨e3, ?_, ?_⟩
 ·rw [← r4, e3, Int.tmod_eq_emod_of_nonneg (by omega)]
 ·rw [← r6, e4]; simp [IntKind.wrap, IntKind.bits, IntKind.signed]; omega
theorem v32_lt {d : List Int} (h : H32 d) : v32 d < 4294967296 ^ d.length := by
 induction d with
 | nil => simp [v32]
 | cons x d ih =>
   have hx := h x (by simp)
   have ih := ih fun z hz => h z (by simp [hz])
   simp only [v32, List.length_cons, Nat.pow_succ]
   rw [Nat.mul_comm]
   omega
theorem H32.take {d : List Int} (h : H32 d) (n : Nat) : H32 (d.take n) := fun x hx => h x (List.mem_of_mem_take hx)
theorem H32.drop {d : List Int} (h : H32 d) (n : Nat) : H32 (d.drop n) := fun x hx => h x (List.mem_of_mem_drop hx)
theorem v32_take_small {Y : List Int} {n : Nat} (h : v32 Y < 4294967296 ^ n) : v32 (Y.take n) = v32 Y := by
 rcases Nat.lt_or_ge n Y.length with hn | hn
 ·have e : v32 Y = v32 (Y.take n) + 4294967296 ^ n * v32 (Y.drop n) := by
    conv => lhs; rw [← List.take_append_drop n Y]
    rw [v32_app, List.length_take, Nat.min_eq_left (by omega)]
  have : v32 (Y.drop n) = 0 := by
   rcases Nat.eq_zero_or_pos (v32 (Y.drop n)) with h0 | h0
   ·exact h0
   ·have := Nat.mul_le_mul_left (4294967296 ^ n) h0
    omega
  rw [this] at e; simpa using e.symm
 ·rw [List.take_of_length_le hn]
theorem ref_Sub (A B : Option Addr) (c d : Nat) (l m : List Int) (w : World) (h : RdI w .u64 A l) (hn : l.length ≤ c) (h9 : l.length ≤ 100000) (h' : RdI w .u64 B m) (hn' : m.length ≤ d) (h9' : m.length ≤ 100000) (hu : U64 l) (hu' : U64 m) :
    Calls Tryz.prog 262 #[.slice A l.length c, .slice B m.length d] w fun e w' => ∃ v, e = .returned (.tuple #[v, .bool (decide (val m ≤ val l))]) ∧ OwnI w' w.heap.size 112 .u64 v (limbs (val l - val m)) ∧ Below w.heap.size w w' := by
 obtain ⟨i0, hi0, hz0, hz1, hz2⟩ := info_split Tryz.infU64
 have CC := aa (ref_Cmp A B c d l m w h hn (by omega) h' hn' (by omega) hu hu')
 rcases Nat.lt_or_ge (val l) (val m) with hlm | hlm
 ·rw [cmpN_lt hlm] at CC
  have HE : Hd (decide (val m ≤ val l) = false ∧ limbs (val l - val m) = []) := ⟨decide_eq_false (by omega), by rw [show val l - val m = 0 by omega]; exact limbs_zero⟩
  clear h h' hu hu' hlm
  go_enter Tryz.func262, Tryz.ntmps262
  go_wp2_with fail
  refine CC.out.mono ?_
  rintro e w' ⟨rfl, rfl⟩
  go_wp2_with fail
  go_ret2
  rw [HE.out.1, HE.out.2]
  exact ⟨_, rfl, OwnI.nil _ _ _ _, .refl _ _⟩
 ·obtain ⟨k, hk⟩ : ∃ k, cmpN (val l) (val m) = k := ⟨_, rfl⟩
  have hk0 : 0 ≤ k := by
   rw [← hk]; unfold cmpN
   rw [if_neg (by omega)]
   split <;> omega
  rw [hk] at CC
  have hk1 : decide (k < 0) = false := decide_eq_false (by omega)
  have HLM := aa hlm
  have D1 := aa (ref_Digits A c l w h hn (by omega) hu)
  have D2 := aa (fun W hW => ref_Digits B d m W (h'.up hW) hn' (by omega) hu')
  have HH : Hd (H32 (digs l) ∧ H32 (digs m)) := ⟨digs_h32 hu, digs_h32 hu'⟩
  have HVV : Hd (v32 (digs l) = val l ∧ v32 (digs m) = val m) := ⟨digs_val hu, digs_val hu'⟩
  have hX1 := digs_len l
  have hY1 := digs_len m
  obtain ⟨X, hX⟩ : ∃ X, digs l = X := ⟨_, rfl⟩
  obtain ⟨Y, hY⟩ : ∃ Y, digs m = Y := ⟨_, rfl⟩
  rw [hX] at D1 HH HVV hX1
  rw [hY] at D2 HH HVV hY1
  have hX9 : X.length ≤ 200000 := by omega
  have hY9 : Y.length ≤ 200000 := by omega
  clear h h' hu hu' hX hY hX1 hY1 hk hlm
  go_enter Tryz.func262, Tryz.ntmps262
  go_wp2_with fail
  refine CC.out.mono ?_
  rintro e w' ⟨rfl, rfl⟩
  go_wp2_with fail
  refine D1.out.mono ?_
  rintro e w1 ⟨v1, rfl, ho1, hb1⟩
  obtain ⟨A1, c1, rfl, hc1, _, hr1⟩ := ho1.reads
  have HX := aa hr1
  have D3 := aa (D2.out w1 hb1)
  have B1 := aa hb1
  clear ho1 hr1 hb1 D1 D2 CC
  go_wp2_with fail
  refine D3.out.mono ?_
  rintro e w2 ⟨v2, rfl, ho2, hb2⟩
  obtain ⟨A2, c2, rfl, hc2, _, hr2⟩ := ho2.reads
  have HY := aa hr2
  have BX := aa hb2
  have BX2 := aa (B1.out.trans (hb2.mono B1.out.size))
  clear ho2 hr2 hb2 D3
  have HO0 := aa (show OwnI (w2.alloc (.cells #[] 112)) w2.heap.size 112 .u64 (.slice (some ⟨w2.heap.size, 0, none⟩) 0 0) [] from World.ownsRow_lit w2 #[] 0 (ae _) (by unfold maxLen; omega) rfl)
  go_wp2_with fail
  go_loopw [8, 9, 10] (fun v8 v9 v10 wr => ∃ (i : Nat) (F : List Int) (b : Int), v10 = .int .i64 i ∧ v9 = .int .u64 b ∧ i ≤ X.length ∧ F.length = i ∧ Hd (OwnI wr w2.heap.size 112 .u64 v8 F) ∧ Hd (H32 F) ∧ Hd (0 ≤ b ∧ b ≤ 1) ∧
   Hd (v32 (X.take i) + 4294967296 ^ i * b.toNat = v32 F + v32 (Y.take i)) ∧ Hd (Below w2.heap.size w2 wr)) (fun _ _ v _ => X.length - (intOf v).toNat)
  case atStart => exact ⟨0, [], 0, rfl, rfl, by omega, rfl, HO0, ⟨fun x h => by cases h⟩, ⟨by omega⟩, ⟨by simp [v32]⟩, ⟨(ag _ _).alloc (ae _) _⟩⟩
  case round =>
   obtain ⟨i, F, b, rfl, rfl, hi, hFl, ho, hF, hcy, hv, hb⟩ := hrel
   have i3 : (0 : Int) ≤ i := by omega
   by_cases h1 : i < X.length
   ·have i1 : (i : Int) < X.length := by omega
    obtain ⟨ad, x, rfl, _, hx, hcx⟩ := (HX.out.up (BX.out.trans (hb.out.mono BX.out.size))).get h1
    obtain ⟨y, hy⟩ : ∃ y, Y.getD i 0 = y := ⟨_, rfl⟩
    have K2 := aa (fun W (hW : RdI W .u64 A2 Y) => ref_at A2 c2 Y (i : Int) i rfl W hW hc2 (by omega) (by omega))
    rw [hy] at K2
    have K2 := aa (K2.out wr.drew (HY.out.up hb.out.drew))
    obtain ⟨T1, r1⟩ : ∃ T1, IntKind.u64.wrap (x + 4294967296) = T1 := ⟨_, rfl⟩
    obtain ⟨T2, r2⟩ : ∃ T2, IntKind.u64.wrap (T1 - y) = T2 := ⟨_, rfl⟩
    obtain ⟨S, r3⟩ : ∃ S, IntKind.u64.wrap (T2 - b) = S := ⟨_, rfl⟩
    obtain ⟨P, r4⟩ : ∃ P, S.tmod 4294967296 = P := ⟨_, rfl⟩
    obtain ⟨Q, r5⟩ : ∃ Q, IntKind.u64.wrap (S.tdiv 4294967296) = Q := ⟨_, rfl⟩
    obtain ⟨C, r6⟩ : ∃ C, IntKind.u64.wrap (1 - Q) = C := ⟨_, rfl⟩
    have hxb := HH.out.1.at_ i
    have hyb := HH.out.2.at_ i
    rw [hx.out] at hxb
    rw [hy] at hyb
    have RR := aa (Dif.mk' hxb hyb hcy.out r1 r2 r3 r4 r5 r6)
    have HV : Hd (v32 (X.take (i + 1)) + 4294967296 ^ (i + 1) * C.toNat = v32 (F ++ [P]) + v32 (Y.take (i + 1))) := ⟨by
     have e := hv.out
     have b1 := hcy.out
     rw [v32_app, v32_take_succ, v32_take_succ, hx.out, hy, hFl, Nat.pow_succ]
     have q1 := RR.out.p
     have q2 := RR.out.c
     generalize 4294967296 ^ i = B at e
     have d : x.toNat + 4294967296 * C.toNat = P.toNat + y.toNat + b.toNat := by omega
     simp only [v32, Nat.mul_zero, Nat.add_zero]
     have e3 : B * x.toNat + B * 4294967296 * C.toNat = B * P.toNat + B * y.toNat + B * b.toNat := by
      rw [Nat.mul_assoc, ← Nat.mul_add, d, Nat.mul_add, Nat.mul_add]
     omega⟩
    have HC : Hd (0 ≤ C ∧ C ≤ 1) := ⟨by have := RR.out.c; have := hcy.out; omega⟩
    have HF : Hd (H32 (F ++ [P])) := ⟨hF.out.app fun z hz => by rw [List.mem_singleton.1 hz]; have := RR.out.p; omega⟩
    clear hx hy hxb hyb
    have OO := aa (ho.out.d1.al (.cells #[.int .u64 P] 112))
    have RN := aa (Rd.new_ wr.drew #[.int .u64 P] 112 1 1 rfl)
    have BB := aa (hb.out.drew.alloc hb.out.size (.cells #[.int .u64 P] 112))
    have XS := aa BB.out.size
    have x63 : F.length + 1 ≤ maxLen := by unfold maxLen; omega
    have xby : (F.length + 1) * 8 ≤ 140737488355328 := by omega
    have hFl2 : (F ++ [P]).length = i + 1 := by rw [List.length_append, hFl]; rfl
    have HFL2 := aa hFl2
    clear hFl hFl2
    go_wp2_with fail
    refine wp_region_any (by kernel_rfl) ?_
    try (change wpAny _ _ _ _ _ _ _ (World.drew _))
    refine takeP 0 27 (v := ?_) rfl rfl (by kernel_rfl) (by kernel_rfl) (by kernel_rfl) (fun _ _ _ h => h) (by kernel_rfl) ?_ ?_
    rotate_left
    ·intro w; first | (go_simp; done) | (go_simp; with_reducible rfl)
    simp only [Act.put, List.setIfInBounds_toArray, List.set_cons_zero, List.set_cons_succ]
    refine takeP 1 28 (v := ?_) rfl rfl (by kernel_rfl) (by kernel_rfl) (by kernel_rfl) (fun _ _ _ h => h) (by kernel_rfl) ?_ ?_
    rotate_left
    ·intro w; first | (go_simp; done) | (go_simp; with_reducible rfl)
    simp only [Act.put, List.setIfInBounds_toArray, List.set_cons_zero, List.set_cons_succ]
    refine takeP 2 29 (v := ?_) rfl rfl (by kernel_rfl) (by kernel_rfl) (by kernel_rfl) (fun _ _ _ h => h) (by kernel_rfl) ?_ ?_
    rotate_left
    ·intro w; first | (go_simp; done) | (go_simp; with_reducible rfl)
    simp only [Act.put, List.setIfInBounds_toArray, List.set_cons_zero, List.set_cons_succ]
    refine takeP 5 32 (v := ?_) rfl rfl (by kernel_rfl) (by kernel_rfl) (by kernel_rfl) (fun _ _ _ h => h) (by kernel_rfl) ?_ ?_
    rotate_left
    ·intro w; first | (go_simp; done) | (go_simp; with_reducible rfl)
    simp only [Act.put, List.setIfInBounds_toArray, List.set_cons_zero, List.set_cons_succ]
    refine takeP 6 33 (v := ?_) rfl rfl (by kernel_rfl) (by kernel_rfl) (by kernel_rfl) (fun _ _ _ h => h) (by kernel_rfl) ?_ ?_
    rotate_left
    ·intro w; first | (go_simp; done) | (go_simp; with_reducible rfl)
    simp only [Act.put, List.setIfInBounds_toArray, List.set_cons_zero, List.set_cons_succ]
    refine takeP 9 36 (v := ?_) rfl rfl (by kernel_rfl) (by kernel_rfl) (by kernel_rfl) (fun _ _ _ h => h) (by kernel_rfl) ?_ ?_
    rotate_left
    ·intro w; first | (go_simp; done) | (go_simp; with_reducible rfl)
    simp only [Act.put, List.setIfInBounds_toArray, List.set_cons_zero, List.set_cons_succ]
    refine wpAny_ready (rs := [3, 7]) (by kernel_rfl) (by simp) ?_
    refine AllReady.cons rfl (fun K hK => ?_) ?_
    go_simp
    refine hK _ _ ?_
    clear hK K
    refine takeP 4 31 (v := ?_) rfl rfl (by kernel_rfl) (by kernel_rfl) (by kernel_rfl) (fun _ _ _ h => h) (by kernel_rfl) ?_ ?_
    rotate_left
    ·intro w; first | (go_simp; done) | (go_simp; with_reducible rfl)
    simp only [Act.put, List.setIfInBounds_toArray, List.set_cons_zero, List.set_cons_succ]
    refine wpAny_ready (rs := [7]) (by kernel_rfl) (by simp) ?_
    refine AllReady.cons rfl (fun K hK => ?_) AllReady.nil
    go_simp
    refine K2.out.mono ?_
    rintro e w' ⟨rfl, rfl⟩
    dsimp only
    refine hK _ _ ?_
    clear hK K
    refine takeP 8 35 (v := ?_) rfl rfl (by kernel_rfl) (by kernel_rfl) (by kernel_rfl) (fun _ _ _ h => h) (by kernel_rfl) ?_ ?_
    rotate_left
    ·intro w; first | (go_simp; done) | (go_simp; with_reducible rfl)
    simp only [Act.put, List.setIfInBounds_toArray, List.set_cons_zero, List.set_cons_succ]
    refine takeP 10 37 (v := ?_) rfl rfl (by kernel_rfl) (by kernel_rfl) (by kernel_rfl) (fun _ _ _ h => h) (by kernel_rfl) ?_ ?_
    rotate_left
    ·intro w; first | (go_simp; done) | (go_simp; with_reducible rfl)
    simp only [Act.put, List.setIfInBounds_toArray, List.set_cons_zero, List.set_cons_succ]
    refine takeP 11 11 (v := ?_) rfl rfl (by kernel_rfl) (by kernel_rfl) (by kernel_rfl) (fun _ _ _ h => h) (by kernel_rfl) ?_ ?_
    rotate_left
    ·intro w; first | (go_simp; done) | (go_simp; with_reducible rfl)
    simp only [Act.put, List.setIfInBounds_toArray, List.set_cons_zero, List.set_cons_succ]
    refine wpAny_done (by kernel_rfl) ?_ _
    rotate_left
    refine AllReady.cons rfl (fun K hK => ?_) ?_
    go_simp
    refine K2.out.mono ?_
    rintro e w' ⟨rfl, rfl⟩
    dsimp only
    refine hK _ _ ?_
    clear hK K
    refine wpAny_ready (rs := [3]) (by kernel_rfl) (by simp) ?_
    refine AllReady.cons rfl (fun K hK => ?_) AllReady.nil
    go_simp
    refine hK _ _ ?_
    clear hK K
    refine takeP 4 31 (v := ?_) rfl rfl (by kernel_rfl) (by kernel_rfl) (by kernel_rfl) (fun _ _ _ h => h) (by kernel_rfl) ?_ ?_
    rotate_left
    ·intro w; first | (go_simp; done) | (go_simp; with_reducible rfl)
    simp only [Act.put, List.setIfInBounds_toArray, List.set_cons_zero, List.set_cons_succ]
    refine takeP 8 35 (v := ?_) rfl rfl (by kernel_rfl) (by kernel_rfl) (by kernel_rfl) (fun _ _ _ h => h) (by kernel_rfl) ?_ ?_
    rotate_left
    ·intro w; first | (go_simp; done) | (go_simp; with_reducible rfl)
    simp only [Act.put, List.setIfInBounds_toArray, List.set_cons_zero, List.set_cons_succ]
    refine takeP 10 37 (v := ?_) rfl rfl (by kernel_rfl) (by kernel_rfl) (by kernel_rfl) (fun _ _ _ h => h) (by kernel_rfl) ?_ ?_
    rotate_left
    ·intro w; first | (go_simp; done) | (go_simp; with_reducible rfl)
    simp only [Act.put, List.setIfInBounds_toArray, List.set_cons_zero, List.set_cons_succ]
    refine takeP 11 11 (v := ?_) rfl rfl (by kernel_rfl) (by kernel_rfl) (by kernel_rfl) (fun _ _ _ h => h) (by kernel_rfl) ?_ ?_
    rotate_left
    ·intro w; first | (go_simp; done) | (go_simp; with_reducible rfl)
    simp only [Act.put, List.setIfInBounds_toArray, List.set_cons_zero, List.set_cons_succ]
    refine wpAny_done (by kernel_rfl) ?_ _
    rotate_left
    exact AllReady.nil
    all_goals (
     go_wp2_with (at_builtin; refine wpList_append_rd _ rfl _ _ 61 rfl w2.heap.size 112 i0 (.int .u64 0) 1 8 Tryz.slU64 hi0 hz0 hz1 hz2 rfl (by decide) _ F.length (ints .u64 F) rfl OO.out _ _ 1 _ (ints .u64 [P]) rfl RN.out (ints_one _ _) x63 xby XS.out ?_)
     intro v' w6 ho6 hg6 _
     have O6 := aa (show OwnI w6 w2.heap.size 112 .u64 v' (F ++ [P]) from by unfold OwnI; rw [List.length_append, ints_app]; exact ho6)
     have B6 := aa (grown_below OO.out hg6 BB.out XS.out)
     clear ho6 hg6
     go_wp2_with fail
     go_roundw
     case measure => first | (simp [intOf]; done) | (simp [intOf]; omega)
     case rel => exact ⟨i + 1, F ++ [P], C, by go_num, rfl, by omega, HFL2.out, O6, HF, HC, HV, B6⟩)
   ·have hie : i = X.length := by omega
    have HE : Hd (v32 F = val l - val m) := ⟨by
     have e := hv.out
     have f1 := HVV.out
     have f2 := HLM.out
     have hYs : v32 Y < 4294967296 ^ X.length := by
      have := v32_lt HH.out.1
      omega
     rw [hie, List.take_length, v32_take_small hYs, f1.1, f1.2] at e
     have f3 := v32_lt hF.out
     rw [hFl, hie] at f3
     have f4 := hcy.out
     have f5 := v32_lt HH.out.1
     rw [f1.1] at f5
     have hb0 : b.toNat = 0 := by
      rcases Nat.eq_zero_or_pos b.toNat with h0 | h0
      ·exact h0
      ·have : b.toNat = 1 := by omega
       rw [this] at e
       omega
     rw [hb0] at e
     omega⟩
    have HD : Hd (decide (val m ≤ val l) = true) := ⟨decide_eq_true HLM.out⟩
    obtain ⟨A', c', rfl, hc', _, hr⟩ := ho.out.reads
    have CW := aa (ref_Whole A' c' F wr hr hc' (by omega) hF.out)
    rw [HE.out] at CW
    clear hr ho hFl hie
    go_wp2_with fail
    refine CW.out.mono ?_
    rintro e w4 ⟨v, rfl, ho4, hb4⟩
    have B0 := aa (BX2.out.trans (hb.out.mono BX2.out.size))
    have O4 := aa (ho4.low B0.out.size)
    have B4 := aa (B0.out.trans (hb4.mono B0.out.size))
    clear ho4 hb4
    go_wp2_with fail
    go_ret2
    rw [HD.out]
    exact ⟨_, rfl, O4.out, B4.out⟩
theorem v32_set (l : List Int) (i : Nat) (h : i < l.length) (s : Int) : v32 (l.set i s) + 4294967296 ^ i * (l.getD i 0).toNat = v32 l + 4294967296 ^ i * s.toNat := by
 induction l generalizing i with
 | nil => simp at h
 | cons x l ih =>
   cases i with
   | zero => simp [v32]; omega
   | succ i =>
     have ih := ih i (by simpa using h)
     simp only [List.set_cons_succ, v32, List.getD_cons_succ, Nat.pow_succ]
     rw [Nat.mul_comm (4294967296 ^ i), Nat.mul_assoc, Nat.mul_assoc]
     omega
theorem H32.set {l : List Int} (h : H32 l) (i : Nat) {x : Int} (h0 : 0 ≤ x ∧ x < 4294967296) : H32 (l.set i x) := by
 intro y hy
 rcases List.mem_or_eq_of_mem_set hy with hy | rfl
 ·exact h y hy
 ·exact h0
structure Prd (o x y cy M S1 S P C : Int) : Prop where
 p : P = (o + x * y + cy) % 4294967296
 c : C = (o + x * y + cy) / 4294967296
 cb : 0 ≤ C ∧ C < 4294967296
theorem Prd.mk' {o x y cy M S1 S P C : Int} (ho : 0 ≤ o ∧ o < 4294967296) (hx : 0 ≤ x ∧ x < 4294967296) (hy : 0 ≤ y ∧ y < 4294967296) (hc : 0 ≤ cy ∧ cy < 4294967296) (r1 : IntKind.u64.wrap (x * y) = M) (r2 : IntKind.u64.wrap (o + M) = S1) (r3 : IntKind.u64.wrap (S1 + cy) = S)
    (r4 : S.tmod 4294967296 = P) (r5 : IntKind.u64.wrap (S.tdiv 4294967296) = C) : Prd o x y cy M S1 S P C := by
 have b0 : 0 ≤ x * y := Int.mul_nonneg hx.1 hy.1
 have b1 : x * y ≤ 4294967295 * 4294967295 := Int.mul_le_mul (by omega) (by omega) hy.1 (by omega)
 obtain ⟨m, hm⟩ : ∃ m, x * y = m := ⟨_, rfl⟩
 rw [hm] at b0 b1 r1
 have e1 : M = m := by rw [← r1]; simp [IntKind.wrap, IntKind.bits, IntKind.signed]; omega
 have e2 : S1 = o + m := by rw [← r2, e1]; simp [IntKind.wrap, IntKind.bits, IntKind.signed]; omega
 have e3 : S = o + m + cy := by rw [← r3, e2]; simp [IntKind.wrap, IntKind.bits, IntKind.signed]; omega
 have e4 : C = (o + m + cy) / 4294967296 := by
  rw [← r5, e3, Int.tdiv_eq_ediv_of_nonneg (by omega)]
  simp [IntKind.wrap, IntKind.bits, IntKind.signed]
  omega
 refine ⟨?_, by rw [hm]; exact e4, by omega⟩
 rw [hm, ← r4, e3, Int.tmod_eq_emod_of_nonneg (by omega)]
theorem v32_zeros (n : Nat) : v32 (List.replicate n 0) = 0 := by
 induction n with
 | zero => rfl
 | succ n ih => rw [List.replicate_succ, v32, ih]; rfl
theorem mul_step32 {O : List Int} {T i k : Nat} {o x y cy P C : Int} {Y : List Int} {M S1 S : Int} (R : Prd o x y cy M S1 S P C) (hl : i + k < O.length) (ho : O.getD (i + k) 0 = o) (hy : Y.getD k 0 = y) (hb : 0 ≤ o ∧ 0 ≤ x ∧ 0 ≤ y ∧ 0 ≤ cy)
    (hv : v32 O + 4294967296 ^ (i + k) * cy.toNat = T + 4294967296 ^ i * (x.toNat * v32 (Y.take k))) :
    v32 (O.set (i + k) P) + 4294967296 ^ (i + (k + 1)) * C.toNat = T + 4294967296 ^ i * (x.toNat * v32 (Y.take (k + 1))) := by
 have h1 := v32_set O (i + k) hl P
 rw [ho] at h1
 rw [v32_take_succ, hy, show i + (k + 1) = (i + k) + 1 by omega, Nat.pow_succ, Nat.mul_add x.toNat, Nat.mul_add (4294967296 ^ i)]
 have e1 : 4294967296 ^ i * (x.toNat * (4294967296 ^ k * y.toNat)) = 4294967296 ^ (i + k) * (x.toNat * y.toNat) := by
  rw [Nat.pow_add, ← Nat.mul_assoc x.toNat, Nat.mul_comm x.toNat (4294967296 ^ k), Nat.mul_assoc (4294967296 ^ k), Nat.mul_assoc]
 rw [e1]
 generalize 4294967296 ^ (i + k) = B at *
 generalize 4294967296 ^ i * (x.toNat * v32 (Y.take k)) = Z at *
 have e2 : (x * y).toNat = x.toNat * y.toNat := Int.toNat_mul hb.2.1 hb.2.2.1
 have b0 : 0 ≤ x * y := Int.mul_nonneg hb.2.1 hb.2.2.1
 have d : P.toNat + 4294967296 * C.toNat = o.toNat + x.toNat * y.toNat + cy.toNat := by
  rw [← e2]
  have q1 := R.p
  have q2 := R.c
  generalize x * y = m at *
  omega
 have e3 : B * P.toNat + B * 4294967296 * C.toNat = B * o.toNat + B * (x.toNat * y.toNat) + B * cy.toNat := by
  rw [Nat.mul_assoc, ← Nat.mul_add, d, Nat.mul_add, Nat.mul_add]
 omega
theorem mul_lt {X Y : List Int} (hX : H32 X) (hY : H32 Y) (i : Nat) {x : Int} (hx : X.getD i 0 = x) : v32 (X.take i) * v32 Y + 4294967296 ^ i * (x.toNat * v32 Y) < 4294967296 ^ (i + 1 + Y.length) := by
 have e : v32 (X.take i) * v32 Y + 4294967296 ^ i * (x.toNat * v32 Y) = v32 (X.take (i + 1)) * v32 Y := by
  rw [v32_take_succ, hx, Nat.add_mul, Nat.mul_assoc]
 rw [e, Nat.pow_add]
 have h1 : v32 (X.take (i + 1)) < 4294967296 ^ (i + 1) := Nat.lt_of_lt_of_le (v32_lt (hX.take _)) (Nat.pow_le_pow_right (by decide) (List.length_take_le _ _))
 have h2 := v32_lt hY
 exact Nat.mul_lt_mul'' h1 h2
theorem carry_dies {V T Z i k n c : Nat} (hv : V + 4294967296 ^ (i + k) * c = T + Z) (hlt : T + Z < 4294967296 ^ (i + 1 + n)) (hk : n < k) : c = 0 := by
 rcases Nat.eq_zero_or_pos c with h | h
 ·exact h
 ·have h1 : 4294967296 ^ (i + 1 + n) ≤ 4294967296 ^ (i + k) := Nat.pow_le_pow_right (by decide) (by omega)
  have h2 := Nat.mul_le_mul_left (4294967296 ^ (i + k)) h
  omega
theorem own_form_I {w : World} {base : Nat} {e : TypeId} {k : IntKind} {v : Value} {l : List Int} (h : OwnI w base e k v l) (h0 : 0 < l.length) : ∃ g c, v = .slice (some ⟨g, 0, none⟩) l.length c ∧ base ≤ g ∧ g < w.heap.size := by
 obtain ⟨g, c, x, rfl, h1, h2, _⟩ := h.cell h0
 exact ⟨g, c, rfl, h1, h2⟩
theorem OwnI.cellAt {w : World} {base : Nat} {e : TypeId} {k : IntKind} {g n c : Nat} {l : List Int} (h : OwnI w base e k (.slice (some ⟨g, 0, none⟩) n c) l) {i : Nat} (hi : i < l.length) : w.cell? ⟨g, i, none⟩ = some (.int k (l.getD i 0)) ∧ ∀ j, w.frozen? ⟨g, j, none⟩ = false := by
 obtain ⟨g', c', x, hv, _, _, hx, hc, hf, _⟩ := h.cell hi
 injection hv with hv1 hv2 hv3
 injection hv1 with hv1
 injection hv1 with hv1
 subst hv1 hv2 hv3
 exact ⟨by rw [hx.out]; exact hc, fun j => World.ownsRow.frozenAt h j⟩
theorem ref_Mul (A B : Option Addr) (c d : Nat) (l m : List Int) (w : World) (h : RdI w .u64 A l) (hn : l.length ≤ c) (h9 : l.length ≤ 100000) (h' : RdI w .u64 B m) (hn' : m.length ≤ d) (h9' : m.length ≤ 100000) (hu : U64 l) (hu' : U64 m) :
    Calls Tryz.prog 259 #[.slice A l.length c, .slice B m.length d] w fun e w' => ∃ v, e = .returned v ∧ OwnI w' w.heap.size 112 .u64 v (limbs (val l * val m)) ∧ Below w.heap.size w w' := by
 obtain ⟨i0, hi0, hz0, hz1, hz2⟩ := info_split Tryz.infU64
 have D1 := aa (ref_Digits A c l w h hn (by omega) hu)
 have D2 := aa (fun W hW => ref_Digits B d m W (h'.up hW) hn' (by omega) hu')
 have HH : Hd (H32 (digs l) ∧ H32 (digs m)) := ⟨digs_h32 hu, digs_h32 hu'⟩
 have HVV : Hd (v32 (digs l) = val l ∧ v32 (digs m) = val m) := ⟨digs_val hu, digs_val hu'⟩
 have hX1 := digs_len l
 have hY1 := digs_len m
 obtain ⟨X, hX⟩ : ∃ X, digs l = X := ⟨_, rfl⟩
 obtain ⟨Y, hY⟩ : ∃ Y, digs m = Y := ⟨_, rfl⟩
 rw [hX] at D1 HH HVV hX1
 rw [hY] at D2 HH HVV hY1
 have hX9 : X.length ≤ 200000 := by omega
 have hY9 : Y.length ≤ 200000 := by omega
 clear h h' hu hu' hX hY hX1 hY1
 go_enter Tryz.func259, Tryz.ntmps259
 go_wp2_with fail
 refine D1.out.mono ?_
 rintro e w1 ⟨v1, rfl, ho1, hb1⟩
 obtain ⟨A1, c1, rfl, hc1, _, hr1⟩ := ho1.reads
 have HX := aa hr1
 have D3 := aa (D2.out w1 hb1)
 have B1 := aa hb1
 clear ho1 hr1 hb1 D1 D2
 go_wp2_with fail
 refine D3.out.mono ?_
 rintro e w2 ⟨v2, rfl, ho2, hb2⟩
 obtain ⟨A2, c2, rfl, hc2, _, hr2⟩ := ho2.reads
 have HY := aa hr2
 have BX := aa hb2
 have BX2 := aa (B1.out.trans (hb2.mono B1.out.size))
 clear ho2 hr2 hb2 D3
 have HO0 := aa (show OwnI (w2.alloc (.cells #[] 112)) w2.heap.size 112 .u64 (.slice (some ⟨w2.heap.size, 0, none⟩) 0 0) [] from World.ownsRow_lit w2 #[] 0 (ae _) (by unfold maxLen; omega) rfl)
 obtain ⟨N, hN⟩ : ∃ N, N = X.length + Y.length + 1 := ⟨_, rfl⟩
 have hN9 : N ≤ 400001 := by omega
 have HN := aa hN
 clear hN
 go_wp2_with fail
 go_loopw [7, 8] (fun v7 v8 wr => ∃ i : Nat, v8 = .int .i64 i ∧ i ≤ N ∧ Hd (OwnI wr w2.heap.size 112 .u64 v7 (List.replicate i 0)) ∧ Hd (Below w2.heap.size w2 wr)) (fun _ v _ => N - (intOf v).toNat)
 case atStart => exact ⟨0, rfl, by omega, HO0, ⟨(ag _ _).alloc (ae _) _⟩⟩
 case round =>
  obtain ⟨i, rfl, hi, ho, hb⟩ := hrel
  by_cases hlt : i < N
  ·have t1 : (i : Int) < (X.length : Int) + Y.length + 1 := by have := HN.out; omega
   obtain ⟨F, hF⟩ : ∃ F, List.replicate i (0 : Int) = F := ⟨_, rfl⟩
   have HF : Hd (F ++ [0] = List.replicate (i + 1) 0) := ⟨by rw [← hF, List.replicate_succ']⟩
   have hFl : F.length ≤ 400001 := by rw [← hF, List.length_replicate]; omega
   rw [hF] at ho
   clear hF
   have OO := aa (ho.out.al (.cells #[.int .u64 0] 112))
   have RN := aa (Rd.new_ wr #[.int .u64 0] 112 1 1 rfl)
   have BB := aa (hb.out.alloc hb.out.size (.cells #[.int .u64 0] 112))
   have XS := aa BB.out.size
   have x63 : F.length + 1 ≤ maxLen := by unfold maxLen; omega
   have xby : (F.length + 1) * 8 ≤ 140737488355328 := by omega
   go_wp2_with (at_builtin; refine wpList_append_rd _ rfl _ _ 61 rfl w2.heap.size 112 i0 (.int .u64 0) 1 8 Tryz.slU64 hi0 hz0 hz1 hz2 rfl (by decide) _ F.length (ints .u64 F) rfl OO.out _ _ 1 _ (ints .u64 [0]) rfl RN.out (ints_one _ _) x63 xby XS.out ?_)
   intro v' w6 ho6 hg6 _
   have O6 := aa (show OwnI w6 w2.heap.size 112 .u64 v' (F ++ [0]) from by unfold OwnI; rw [List.length_append, ints_app]; exact ho6)
   have B6 := aa (grown_below OO.out hg6 BB.out XS.out)
   clear ho6 hg6
   go_wp2_with fail
   go_roundw
   case measure => first | (simp [intOf]; done) | (simp [intOf]; omega)
   case rel => exact ⟨i + 1, by go_num, by omega, ⟨by rw [← HF.out]; exact O6.out⟩, B6⟩
  ·have hie : i = N := by omega
   subst hie
   have t1 : ¬ (i : Int) < (X.length : Int) + Y.length + 1 := by have := HN.out; omega
   obtain ⟨g, cap, rfl, hg1, hg2⟩ := own_form_I ho.out (by rw [List.length_replicate]; have := HN.out; omega)
   rw [List.length_replicate]
   rw [List.length_replicate] at ho
   clear hlt hi
   have B0 := aa hb.out
   go_wp2_with fail
   go_loopw [9] (fun v9 wr => ∃ (a : Nat) (O : List Int), v9 = .int .i64 a ∧ a ≤ X.length ∧ O.length = i ∧ Hd (OwnI wr w2.heap.size 112 .u64 (.slice (some ⟨g, 0, none⟩) i cap) O) ∧ Hd (H32 O) ∧ Hd (v32 O = v32 (X.take a) * v32 Y) ∧ Hd (Below w2.heap.size w2 wr)) (fun v _ => X.length - (intOf v).toNat)
   case atStart => exact ⟨0, List.replicate i 0, rfl, by omega, by simp, ho, ⟨fun x h => by rw [List.eq_of_mem_replicate h]; omega⟩, ⟨by rw [v32_zeros]; simp [v32]⟩, B0⟩
   case round =>
    obtain ⟨a, O, rfl, ha, hOl, hO, hO32, hOv, hbO⟩ := hrel
    by_cases hax : a < X.length
    ·have a1 : (a : Int) < X.length := by omega
     have a2 : (0 : Int) ≤ a := by omega
     have HOl := aa hOl
     clear hOl
     go_wp2_with fail
     go_loopw [10, 11] (fun v10 v11 wr => ∃ (k : Nat) (P : List Int) (cy : Int), v11 = .int .i64 k ∧ v10 = .int .u64 cy ∧ k ≤ Y.length + 1 ∧ Hd (P.length = i) ∧ Hd (OwnI wr w2.heap.size 112 .u64 (.slice (some ⟨g, 0, none⟩) i cap) P) ∧ Hd (H32 P) ∧ Hd (0 ≤ cy ∧ cy < 4294967296) ∧
      Hd (v32 P + 4294967296 ^ (a + k) * cy.toNat = v32 (X.take a) * v32 Y + 4294967296 ^ a * ((X.getD a 0).toNat * v32 (Y.take k))) ∧ Hd (Below w2.heap.size w2 wr)) (fun _ v _ => Y.length + 2 - (intOf v).toNat)
     case atStart => exact ⟨0, O, 0, rfl, rfl, by omega, HOl, hO, hO32, ⟨by omega⟩, ⟨by rw [hOv.out]; simp [v32]⟩, hbO⟩
     case round =>
      obtain ⟨k, P, cy, rfl, rfl, hk, hPl, hP, hP32, hcy, hPv, hbP⟩ := hrel
      have k0 : (0 : Int) ≤ k := by omega
      by_cases hky : k < Y.length
      ·have k1 : (k : Int) < Y.length := by omega
       obtain ⟨ad, x, hA, _, hx, hcx⟩ := (HX.out.up (BX.out.trans (hbP.out.mono BX.out.size))).get hax
       subst hA
       have hlt' : a + k < P.length := by have := HN.out; have := hPl.out; omega
       obtain ⟨hco, hfr⟩ := hP.out.cellAt hlt'
       obtain ⟨o, ho'⟩ : ∃ o, P.getD (a + k) 0 = o := ⟨_, rfl⟩
       obtain ⟨y, hy⟩ : ∃ y, Y.getD k 0 = y := ⟨_, rfl⟩
       rw [ho'] at hco
       have K2 := ref_at A2 c2 Y (k : Int) k rfl wr.drew (HY.out.up hbP.out.drew) hc2 (by omega) (by omega)
       rw [hy] at K2
       have K2 := aa K2
       obtain ⟨M, r1⟩ : ∃ M, IntKind.u64.wrap (x * y) = M := ⟨_, rfl⟩
       obtain ⟨S1, r2⟩ : ∃ S1, IntKind.u64.wrap (o + M) = S1 := ⟨_, rfl⟩
       obtain ⟨S, r3⟩ : ∃ S, IntKind.u64.wrap (S1 + cy) = S := ⟨_, rfl⟩
       obtain ⟨p, r4⟩ : ∃ p, S.tmod 4294967296 = p := ⟨_, rfl⟩
       obtain ⟨C, r5⟩ : ∃ C, IntKind.u64.wrap (S.tdiv 4294967296) = C := ⟨_, rfl⟩
       have hob := hP32.out.at_ (a + k)
       have hxb := HH.out.1.at_ a
       have hyb := HH.out.2.at_ k
       rw [ho'] at hob
       rw [hx.out] at hxb
       rw [hy] at hyb
       have RR := aa (Prd.mk' hob hxb hyb hcy.out r1 r2 r3 r4 r5)
       have HV : Hd (v32 (P.set (a + k) p) + 4294967296 ^ (a + (k + 1)) * C.toNat = v32 (X.take a) * v32 Y + 4294967296 ^ a * ((X.getD a 0).toNat * v32 (Y.take (k + 1)))) := ⟨by
        rw [hx.out]
        have hv := hPv.out
        rw [hx.out] at hv
        exact mul_step32 RR.out hlt' ho' hy ⟨hob.1, hxb.1, hyb.1, hcy.out.1⟩ hv⟩
       have HP32 : Hd (H32 (P.set (a + k) p)) := ⟨hP32.out.set _ (by have := RR.out.p; omega)⟩
       have HPP := aa (hP.out.d1.put hlt' p)
       have HPl2 : Hd ((P.set (a + k) p).length = i) := ⟨by rw [List.length_set]; exact hPl.out⟩
       have HBP := aa (hbP.out.drew.setCell (p := ⟨g, a + k, none⟩) hg1 (.int .u64 p))
       have hai : Hd (a + k < i) := ⟨by have := hPl.out; omega⟩
       have z4 : (a : Int) + k < i := by have := hai.out; omega
       have z3 : (0 : Int) ≤ (a : Int) + k := by omega
       have z5 : ((a : Int) + k).toNat = a + k := by omega
       have z2 : IntKind.i64.wrap ((a : Int) + k) = (a : Int) + k := IntWalk.i64_in _ (by omega)
       clear ho' hy hob hxb hyb hx hlt'
       go_wp2_with fail
       go_region_held3 (fun w' => w'.cell? ⟨g, a + k, none⟩ = some (.int .u64 o) ∧ w'.cell? (ad.add a) = some (.int .u64 x))
        (first
         | exact ⟨hco, hcx⟩
         | assumption)
        (first
         | (go_at_call 295; with_reducible refine K2.out.mono ?_; rintro e w' ⟨rfl, rfl⟩))
       go_wp2_with fail
       go_roundw
       case measure => first | (simp [intOf]; done) | (simp [intOf]; omega)
       case rel => exact ⟨k + 1, P.set (a + k) p, C, by go_num, rfl, by omega, HPl2, HPP, HP32, ⟨RR.out.cb⟩, HV, HBP⟩
      ·have k1 : ¬ (k : Int) < Y.length := by omega
       have HCY : Hd (Y.length < k → cy = 0) := ⟨fun hh => by
        have e := carry_dies (i := a) (k := k) (n := Y.length) (c := cy.toNat) hPv.out (by
         rw [List.take_of_length_le (by omega : Y.length ≤ k)]
         exact mul_lt HH.out.1 HH.out.2 a rfl) hh
        have := hcy.out; omega⟩
       by_cases hcp : 0 < cy
       ·have hk : k ≤ Y.length := by
          rcases Nat.lt_or_ge Y.length k with hh | hh
          ·have := HCY.out hh; omega
          ·exact hh
        obtain ⟨ad, x, hA, _, hx, hcx⟩ := (HX.out.up (BX.out.trans (hbP.out.mono BX.out.size))).get hax
        subst hA
        have hlt' : a + k < P.length := by have := HN.out; have := hPl.out; omega
        obtain ⟨hco, hfr⟩ := hP.out.cellAt hlt'
        obtain ⟨o, ho'⟩ : ∃ o, P.getD (a + k) 0 = o := ⟨_, rfl⟩
        obtain ⟨y, hy⟩ : ∃ y, Y.getD k 0 = y := ⟨_, rfl⟩
        rw [ho'] at hco
        have K2 := ref_at A2 c2 Y (k : Int) k rfl wr.drew (HY.out.up hbP.out.drew) hc2 (by omega) (by omega)
        rw [hy] at K2
        have K2 := aa K2
        obtain ⟨M, r1⟩ : ∃ M, IntKind.u64.wrap (x * y) = M := ⟨_, rfl⟩
        obtain ⟨S1, r2⟩ : ∃ S1, IntKind.u64.wrap (o + M) = S1 := ⟨_, rfl⟩
        obtain ⟨S, r3⟩ : ∃ S, IntKind.u64.wrap (S1 + cy) = S := ⟨_, rfl⟩
        obtain ⟨p, r4⟩ : ∃ p, S.tmod 4294967296 = p := ⟨_, rfl⟩
        obtain ⟨C, r5⟩ : ∃ C, IntKind.u64.wrap (S.tdiv 4294967296) = C := ⟨_, rfl⟩
        have hob := hP32.out.at_ (a + k)
        have hxb := HH.out.1.at_ a
        have hyb := HH.out.2.at_ k
        rw [ho'] at hob
        rw [hx.out] at hxb
        rw [hy] at hyb
        have RR := aa (Prd.mk' hob hxb hyb hcy.out r1 r2 r3 r4 r5)
        have HV : Hd (v32 (P.set (a + k) p) + 4294967296 ^ (a + (k + 1)) * C.toNat = v32 (X.take a) * v32 Y + 4294967296 ^ a * ((X.getD a 0).toNat * v32 (Y.take (k + 1)))) := ⟨by
         rw [hx.out]
         have hv := hPv.out
         rw [hx.out] at hv
         exact mul_step32 RR.out hlt' ho' hy ⟨hob.1, hxb.1, hyb.1, hcy.out.1⟩ hv⟩
        have HP32 : Hd (H32 (P.set (a + k) p)) := ⟨hP32.out.set _ (by have := RR.out.p; omega)⟩
        have HPP := aa (hP.out.d1.put hlt' p)
        have HPl2 : Hd ((P.set (a + k) p).length = i) := ⟨by rw [List.length_set]; exact hPl.out⟩
        have HBP := aa (hbP.out.drew.setCell (p := ⟨g, a + k, none⟩) hg1 (.int .u64 p))
        have hai : Hd (a + k < i) := ⟨by have := hPl.out; omega⟩
        have z4 : (a : Int) + k < i := by have := hai.out; omega
        have z3 : (0 : Int) ≤ (a : Int) + k := by omega
        have z5 : ((a : Int) + k).toNat = a + k := by omega
        have z2 : IntKind.i64.wrap ((a : Int) + k) = (a : Int) + k := IntWalk.i64_in _ (by omega)
        clear ho' hy hob hxb hyb hx hlt'
        go_wp2_with fail
        go_region_held3 (fun w' => w'.cell? ⟨g, a + k, none⟩ = some (.int .u64 o) ∧ w'.cell? (ad.add a) = some (.int .u64 x))
         (first
          | exact ⟨hco, hcx⟩
          | assumption)
         (first
          | (go_at_call 295; with_reducible refine K2.out.mono ?_; rintro e w' ⟨rfl, rfl⟩))
        go_wp2_with fail
        go_roundw
        case measure => first | (simp [intOf]; done) | (simp [intOf]; omega)
        case rel => exact ⟨k + 1, P.set (a + k) p, C, by go_num, rfl, by omega, HPl2, HPP, HP32, ⟨RR.out.cb⟩, HV, HBP⟩
       ·have HQ : Hd (v32 P = v32 (X.take (a + 1)) * v32 Y) := ⟨by
          have e := hPv.out
          have : cy = 0 := by have := hcy.out; omega
          rw [this, List.take_of_length_le (by omega : Y.length ≤ k)] at e
          rw [v32_take_succ, Nat.add_mul, Nat.mul_assoc]
          simpa using e⟩
        go_wp2_with fail
        go_roundw
        case measure => first | (simp [intOf]; done) | (simp [intOf]; omega)
        case rel => exact ⟨a + 1, P, by go_num, by omega, hPl.out, hP, hP32, HQ, hbP⟩
    ·have HE : Hd (v32 O = val l * val m) := ⟨by rw [hOv.out, List.take_of_length_le (by omega), HVV.out.1, HVV.out.2]⟩
     have hi9 : O.length ≤ 1000000 := by omega
     obtain ⟨A', c', e', hc', _, hr⟩ := hO.out.reads
     injection e' with e1 e2 e3
     have CW := aa (ref_Whole A' c' O wr hr hc' hi9 hO32.out)
     rw [HE.out, ← e1, ← e3, ← e2] at CW
     clear hr hO hOl e1 e2 e3 hi9
     go_wp2_with fail
     refine CW.out.mono ?_
     rintro e w4 ⟨v, rfl, ho4, hb4⟩
     have B9 := aa (BX2.out.trans (hbO.out.mono BX2.out.size))
     have O4 := aa (ho4.low B9.out.size)
     have B4 := aa (B9.out.trans (hb4.mono B9.out.size))
     clear ho4 hb4
     go_wp2_with fail
     go_ret
     exact ⟨_, rfl, O4.out, B4.out⟩
theorem rnat_May (A : Option Addr) (c : Nat) (l : List Int) (w : World) (h : RdI w .u64 A l) (hn : l.length ≤ c) (h9 : l.length ≤ 1000000000) :
    Calls Tryz.prog 153 #[.slice A l.length c] w fun e w' => e = .returned (.bool (natMay l)) ∧ w = w' := by
 by_cases h8 : l.length ≤ 8
 ·rcases Nat.eq_zero_or_pos l.length with h0 | h0
  ·have hl : l = [] := List.eq_nil_of_length_eq_zero h0
   subst hl
   have HE : Hd (natMay [] = true) := ⟨decide_eq_true ⟨by simp, .inl rfl⟩⟩
   clear h h0 h8 h9 hn
   go_enter Tryz.func153, Tryz.ntmps153
   go_wp2_with fail
   go_ret
   exact ⟨retBool HE.out.symm, rfl⟩
  ·obtain ⟨ad, x, rfl, _, hx, hcx⟩ := h.get (i := l.length - 1) (by omega)
   obtain ⟨m, hm⟩ : ∃ m, l.length - 1 = m := ⟨_, rfl⟩
   rw [hm] at hcx hx
   have e1 : ((l.length : Int) == 0) = false := by rw [beq_eq_false_iff_ne]; omega
   have n1 : (l.length : Int) - 1 = m := by omega
   have n2 : (0 : Int) ≤ m := by omega
   have n3 : (m : Int) < l.length := by omega
   have d8 : decide ((l.length : Int) ≤ 8) = true := decide_eq_true (by omega)
   have h8' : (l.length : Int) ≤ 8 := by omega
   by_cases hx0 : x = 0
   ·have e2 : (x != 0) = false := by rw [bne_eq_false_iff_eq]; exact hx0
    have HE : Hd (natMay l = false) := ⟨decide_eq_false fun hh => by
     rcases hh.2 with hh | hh
     ·rw [hh] at h0; simp at h0
     ·rw [hm, hx.out] at hh; exact hh hx0⟩
    clear h h0 hx hx0 hm
    go_enter Tryz.func153, Tryz.ntmps153
    go_wp2_with fail
    go_ret
    exact ⟨retBool HE.out.symm, rfl⟩
   ·have e2 : (x != 0) = true := by rw [bne_iff_ne]; exact hx0
    have HE : Hd (natMay l = true) := ⟨decide_eq_true ⟨h8, .inr (by rw [hm, hx.out]; exact hx0)⟩⟩
    clear h h0 hx hx0 hm
    go_enter Tryz.func153, Tryz.ntmps153
    go_wp2_with fail
    go_ret
    exact ⟨retBool HE.out.symm, rfl⟩
 ·have d8 : decide ((l.length : Int) ≤ 8) = false := decide_eq_false (by omega)
  have h8' : ¬ (l.length : Int) ≤ 8 := by omega
  have HE : Hd (natMay l = false) := ⟨decide_eq_false fun hh => h8 hh.1⟩
  clear h h8
  go_enter Tryz.func153, Tryz.ntmps153
  go_wp2_with fail
  go_ret
  exact ⟨retBool HE.out.symm, rfl⟩
theorem rnat_Of (n : Int) (h0 : 0 ≤ n) (h1 : n < 18446744073709551616) (w : World) :
    Calls Tryz.prog 120 #[.int .u64 n] w fun e w' => ∃ v, e = .returned v ∧ OwnI w' w.heap.size 112 .u64 v (limbs n.toNat) ∧ Below w.heap.size w w' := by
 have RN := aa (Rd.new_ w #[.int .u64 n] 112 1 1 rfl)
 have hr : RdI (w.alloc (.cells #[.int .u64 n] 112)) .u64 (some ⟨w.heap.size, 0, none⟩) [n] := by
  unfold RdI
  rw [show (w.alloc (.cells #[.int .u64 n] 112)).heap.size = w.heap.size + 1 by simp]
  exact RN.out
 have CT := aa (ref_Trim (some ⟨w.heap.size, 0, none⟩) 1 [n] _ hr (ae _) (by simp))
 have hu : U64 [n] := U64.nil.cons h0 h1
 have HE : Hd (trimL [n] = limbs n.toNat) := ⟨by rw [trim_limbs hu]; simp [val]⟩
 have hb : Hd (Below w.heap.size w (w.alloc (.cells #[.int .u64 n] 112))) := ⟨(ag _ _).alloc (ae _) _⟩
 rw [HE.out] at CT
 clear hr hu h0 h1
 go_enter Tryz.func120, Tryz.ntmps120
 go_wp2_with fail
 refine CT.out.mono ?_
 rintro e w4 ⟨v, rfl, ho4, hb4⟩
 have O4 := aa (ho4.low hb.out.size)
 have B4 := aa (hb.out.trans (hb4.mono hb.out.size))
 clear ho4 hb4
 go_wp2_with fail
 go_ret
 exact ⟨_, rfl, O4.out, B4.out⟩
def heldD (l : List Int) : Int × List Int := if 8 < l.length then (21, []) else (0, l)
theorem rnat_held (A : Option Addr) (c : Nat) (l : List Int) (w : World) :
    Calls Tryz.prog 284 #[.slice A l.length c] w fun e w' => e = .returned (.tuple #[if 8 < l.length then .slice none 0 0 else .slice A l.length c, .int .i64 (heldD l).1]) ∧ w = w' := by
 by_cases h : 8 < l.length
 ·have h8 : (8 : Int) < l.length := by omega
  have HE : Hd ((heldD l).1 = 21) := ⟨by unfold heldD; rw [if_pos h]⟩
  rw [if_pos h, HE.out]
  clear h
  go_enter Tryz.func284, Tryz.ntmps284
  go_wp2_with fail
  go_ret2
  exact ⟨rfl, rfl⟩
 ·have h8 : ¬ (8 : Int) < l.length := by omega
  have HE : Hd ((heldD l).1 = 0) := ⟨by unfold heldD; rw [if_neg h]⟩
  rw [if_neg h, HE.out]
  clear h
  go_enter Tryz.func284, Tryz.ntmps284
  go_wp2_with fail
  go_ret2
  exact ⟨rfl, rfl⟩
theorem rnat_Same (A B : Option Addr) (c d : Nat) (l m : List Int) (w : World) (h : RdI w .u64 A l) (hn : l.length ≤ c) (h' : RdI w .u64 B m) (hn' : m.length ≤ d) (h9 : l.length ≤ 1000000000) (h9' : m.length ≤ 1000000000) :
    Calls Tryz.prog 155 #[.slice A l.length c, .slice B m.length d] w fun e w' => e = .returned (.bool (decide (l = m))) ∧ Dr w w' := by
 have CS := aa (ref_Same A B c d l m w h hn h' hn' h9 h9')
 obtain ⟨bb, hbb⟩ : ∃ bb, decide (l = m) = bb := ⟨_, rfl⟩
 rw [hbb] at CS ⊢
 clear h h' hbb
 go_enter Tryz.func155, Tryz.ntmps155
 go_wp2_with fail
 refine CS.out.mono ?_
 rintro e w' ⟨rfl, hd⟩
 have HD := aa hd
 clear hd
 go_wp2_with fail
 go_ret
 exact ⟨rfl, HD.out⟩
def natMulD (l m : List Int) : Int × List Int := if (natMay l && natMay m) = false then (1, []) else heldD (limbs (val l * val m))
theorem rnat_Mul (A B : Option Addr) (c d : Nat) (l m : List Int) (w : World) (h : RdI w .u64 A l) (hn : l.length ≤ c) (h9 : l.length ≤ 100000) (h' : RdI w .u64 B m) (hn' : m.length ≤ d) (h9' : m.length ≤ 100000) (hu : U64 l) (hu' : U64 m) :
    Calls Tryz.prog 240 #[.slice A l.length c, .slice B m.length d] w fun e w' => ∃ v, e = .returned (.tuple #[v, .int .i64 (natMulD l m).1]) ∧ OwnI w' w.heap.size 112 .u64 v (natMulD l m).2 ∧ Below w.heap.size w w' := by
 have M1 := aa (rnat_May A c l w h hn (by omega))
 have M2 := aa (rnat_May B d m w h' hn' (by omega))
 have CM := aa (ref_Mul A B c d l m w h hn h9 h' hn' h9' hu hu')
 clear h h' hu hu'
 cases hm1 : natMay l
 ·rw [hm1] at M1
  have HE : Hd (natMulD l m = (1, [])) := ⟨by unfold natMulD; rw [hm1]; rfl⟩
  clear hm1
  go_enter Tryz.func240, Tryz.ntmps240
  go_wp2_with fail
  refine M1.out.mono ?_
  rintro e w' ⟨rfl, rfl⟩
  go_wp2_with fail
  go_ret2
  rw [HE.out]
  exact ⟨_, rfl, OwnI.nil _ _ _ _, .refl _ _⟩
 ·rw [hm1] at M1
  cases hm2 : natMay m
  ·rw [hm2] at M2
   have HE : Hd (natMulD l m = (1, [])) := ⟨by unfold natMulD; rw [hm1, hm2]; rfl⟩
   clear hm1 hm2
   go_enter Tryz.func240, Tryz.ntmps240
   go_wp2_with fail
   refine M1.out.mono ?_
   rintro e w' ⟨rfl, rfl⟩
   go_wp2_with fail
   refine M2.out.mono ?_
   rintro e w' ⟨rfl, rfl⟩
   go_wp2_with fail
   go_ret2
   rw [HE.out]
   exact ⟨_, rfl, OwnI.nil _ _ _ _, .refl _ _⟩
  ·rw [hm2] at M2
   obtain ⟨R, hR⟩ : ∃ R, limbs (val l * val m) = R := ⟨_, rfl⟩
   rw [hR] at CM
   have HE : Hd (natMulD l m = heldD R) := ⟨by unfold natMulD; rw [hm1, hm2, hR]; rfl⟩
   have HH := aa (fun A c W => rnat_held A c R W)
   clear hm1 hm2 hR
   go_enter Tryz.func240, Tryz.ntmps240
   go_wp2_with fail
   refine M1.out.mono ?_
   rintro e w' ⟨rfl, rfl⟩
   go_wp2_with fail
   refine M2.out.mono ?_
   rintro e w' ⟨rfl, rfl⟩
   go_wp2_with fail
   refine CM.out.mono ?_
   rintro e w4 ⟨v, rfl, ho4, hb4⟩
   obtain ⟨A4, c4, rfl, hc4, _, _⟩ := ho4.reads
   have O4 := aa ho4
   have B4 := aa hb4
   have H4 := aa (HH.out A4 c4 w4)
   clear ho4 hb4
   by_cases h8 : 8 < R.length
   ·have HV : Hd (heldD R = (21, [])) := ⟨by unfold heldD; rw [if_pos h8]⟩
    rw [if_pos h8, HV.out] at H4
    clear h8
    go_wp2_with fail
    refine H4.out.mono ?_
    rintro e w' ⟨rfl, rfl⟩
    go_wp2_with fail
    go_ret2
    rw [HE.out, HV.out]
    exact ⟨_, rfl, OwnI.nil _ _ _ _, B4.out⟩
   ·have HV : Hd (heldD R = (0, R)) := ⟨by unfold heldD; rw [if_neg h8]⟩
    rw [if_neg h8, HV.out] at H4
    clear h8
    go_wp2_with fail
    refine H4.out.mono ?_
    rintro e w' ⟨rfl, rfl⟩
    go_wp2_with fail
    go_ret2
    rw [HE.out, HV.out]
    exact ⟨_, rfl, O4.out, B4.out⟩
theorem ref_times (A B : Option Addr) (c d : Nat) (l m : List Int) (w : World) (h : RdI w .u64 A l) (hn : l.length ≤ c) (h9 : l.length ≤ 90000) (h' : RdI w .u64 B m) (hn' : m.length ≤ d) (h9' : m.length ≤ 90000) (hu : U64 l) (hu' : U64 m) (hm0 : 0 < val m) (hq : val l < val m * 4294967296) :
    Calls Tryz.prog 261 #[.slice A l.length c, .slice B m.length d] w fun e w' => e = .returned (.int .u64 ((val l / val m : Nat) : Int)) ∧ Below w.heap.size w w' := by
 have HL := aa h
 have HM := aa h'
 have HU := aa (af hu hu')
 have H0 := aa hm0
 have HQ := aa hq
 clear h h' hu hu' hm0 hq
 go_enter Tryz.func261, Tryz.ntmps261
 go_wp2_with fail
 go_loopw [5, 6] (fun v5 v6 wr => ∃ lo hi : Nat, v5 = .int .u64 lo ∧ v6 = .int .u64 hi ∧ lo < hi ∧ hi ≤ 4294967296 ∧ Hd (val m * lo ≤ val l ∧ val l < val m * hi) ∧ Hd (Below w.heap.size w wr)) (fun v5 v6 _ => (intOf v6).toNat - (intOf v5).toNat)
 case atStart => exact ⟨0, 4294967296, rfl, rfl, by omega, by omega, ⟨by simp, HQ.out⟩, ⟨.refl _ _⟩⟩
 case round =>
  obtain ⟨lo, hi, rfl, rfl, h1, h2, hv, hb⟩ := hrel
  have j1 : (0 : Int) ≤ lo := by omega
  have j2 : (lo : Int) < hi := by omega
  have j3 : (hi : Int) ≤ 4294967296 := by omega
  by_cases h3 : 1 < hi - lo
  ·have j4 : (1 : Int) < (hi : Int) - lo := by omega
   obtain ⟨k, hk⟩ : ∃ k, (lo + hi) / 2 = k := ⟨_, rfl⟩
   have hk1 : lo < k := by omega
   have hk2 : k < hi := by omega
   have ek : ((lo : Int) + hi) / 2 = (k : Int) := by omega
   have hkv : val [(k : Int)] = k := by simp [val]
   have hbn : Below wr.heap.size wr (wr.alloc (.cells #[.int .u64 (k : Int)] 112)) := (ag _ _).alloc (ae _) _
   have HBN := aa (hb.out.trans (hbn.mono hb.out.size))
   have hrk : RdI (wr.alloc (.cells #[.int .u64 (k : Int)] 112)) .u64 (some ⟨wr.heap.size, 0, none⟩) [(k : Int)] := by
    unfold RdI
    rw [show (wr.alloc (.cells #[.int .u64 (k : Int)] 112)).heap.size = wr.heap.size + 1 by simp]
    exact Rd.new_ wr #[.int .u64 (k : Int)] 112 1 1 rfl
   have CM := aa (ref_Mul B (some ⟨wr.heap.size, 0, none⟩) d 1 m [(k : Int)] _ (HM.out.up HBN.out) hn' (by omega) hrk (ae _) (by simp) HU.out.2 (U64.nil.cons (by omega) (by omega)))
   rw [hkv] at CM
   obtain ⟨R, hR⟩ : ∃ R, limbs (val m * k) = R := ⟨_, rfl⟩
   have HR : Hd (val R = val m * k ∧ U64 R) := ⟨by rw [← hR, val_limbs]; exact ⟨rfl, limbs_u64 _⟩⟩
   have hRl : R.length ≤ 90001 := by
    have e3 : R.length ≤ m.length + 1 := by
     rw [← hR]
     refine limbs_len.2 ?_
     rw [Nat.pow_succ]
     exact Nat.mul_lt_mul'' (val_lt HU.out.2) (by omega)
    omega
   rw [hR] at CM
   have CC := aa (fun A' c' W (hW : RdI W .u64 A' R) (hc' : R.length ≤ c') (hb' : Below w.heap.size w W) => ref_Cmp A' A c' c R l W hW hc' (by omega) (HL.out.up hb') hn (by omega) HR.out.2 HU.out.1)
   rw [HR.out.1] at CC
   clear hbn hrk hR hk hkv
   by_cases h4 : val m * k ≤ val l
   ·have hcv : cmpN (val m * k) (val l) ≤ 0 := by unfold cmpN; split <;> (try split) <;> omega
    obtain ⟨q, hq⟩ : ∃ q, cmpN (val m * k) (val l) = q := ⟨_, rfl⟩
    rw [hq] at CC hcv
    have HV : Hd (val m * k ≤ val l ∧ val l < val m * hi) := ⟨h4, hv.out.2⟩
    clear h4 hq hv
    go_wp2_with fail
    refine CM.out.mono ?_
    rintro e w4 ⟨v, rfl, ho4, hb4⟩
    have B4 := aa (HBN.out.trans (hb4.mono HBN.out.size))
    obtain ⟨A4, c4, rfl, hc4, _, hr4⟩ := ho4.reads
    have CC4 := aa (CC.out A4 c4 w4 hr4 hc4 B4.out)
    clear ho4 hb4 hr4 CC CM
    go_wp2_with fail
    refine CC4.out.mono ?_
    rintro e w' ⟨rfl, rfl⟩
    go_wp2_with fail
    go_roundw
    case measure => first | (simp [intOf]; done) | (simp [intOf]; omega)
    case rel => exact ⟨k, hi, rfl, rfl, hk2, h2, HV, B4⟩
   ·have hcv : ¬ cmpN (val m * k) (val l) ≤ 0 := by unfold cmpN; rw [if_neg (by omega), if_pos (by omega)]; omega
    obtain ⟨q, hq⟩ : ∃ q, cmpN (val m * k) (val l) = q := ⟨_, rfl⟩
    rw [hq] at CC hcv
    have HV : Hd (val m * lo ≤ val l ∧ val l < val m * k) := ⟨hv.out.1, by omega⟩
    clear h4 hq hv
    go_wp2_with fail
    refine CM.out.mono ?_
    rintro e w4 ⟨v, rfl, ho4, hb4⟩
    have B4 := aa (HBN.out.trans (hb4.mono HBN.out.size))
    obtain ⟨A4, c4, rfl, hc4, _, hr4⟩ := ho4.reads
    have CC4 := aa (CC.out A4 c4 w4 hr4 hc4 B4.out)
    clear ho4 hb4 hr4 CC CM
    go_wp2_with fail
    refine CC4.out.mono ?_
    rintro e w' ⟨rfl, rfl⟩
    go_wp2_with fail
    go_roundw
    case measure => first | (simp [intOf]; done) | (simp [intOf]; omega)
    case rel => exact ⟨lo, k, rfl, rfl, hk1, by omega, HV, B4⟩
  ·have j4 : ¬ (1 : Int) < (hi : Int) - lo := by omega
   have HE : Hd (((val l / val m : Nat) : Int) = lo) := ⟨by
    have e1 : hi = lo + 1 := by omega
    have e := hv.out
    rw [e1] at e
    have : val l / val m = lo := by
     rw [Nat.div_eq_iff H0.out]
     have e2 : val m * (lo + 1) = val m * lo + val m := Nat.mul_succ _ _
     rw [Nat.mul_comm lo]
     omega
    rw [this]⟩
   clear hv
   go_wp2_with fail
   go_ret
   exact ⟨retInt HE.out.symm, hb.out⟩
end Go.Proofs.YtgjkgkgieeoalaaGreat
