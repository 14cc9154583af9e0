/- Parts of the proof, joined: each theorem says what it shows. -/
import Derived.Test.YtgjkgkgieeoalaaGreatC09
set_option linter.unusedVariables false
set_option linter.unusedSimpArgs false
set_option maxHeartbeats 24000000
set_option maxRecDepth 100000
namespace Go.Proofs.YtgjkgkgieeoalaaGreat
open Go.RowKit
theorem v32_app (l m : List Int) : v32 (l ++ m) = v32 l + 4294967296 ^ l.length * v32 m := by
 induction l with
 | nil => simp [v32]
 | cons x l ih => simp only [List.cons_append, v32, ih, List.length_cons, Nat.pow_succ]; rw [Nat.mul_add, Nat.mul_comm (4294967296 ^ l.length) 4294967296, Nat.mul_assoc]; omega
theorem v32_take_succ (l : List Int) (i : Nat) : v32 (l.take (i + 1)) = v32 (l.take i) + 4294967296 ^ i * (l.getD i 0).toNat := by
 rcases Nat.lt_or_ge i l.length with h | h
 ·rw [take_snoc h, v32_app, List.length_take, Nat.min_eq_left (by omega)]; simp [v32]
 ·rw [List.take_of_length_le (by omega), List.take_of_length_le h, getD_out h]; simp
theorem digs_h32 {l : List Int} (h : U64 l) : H32 (digs l) := by
 intro x hx
 obtain ⟨y, hy, hx⟩ := List.mem_flatMap.1 hx
 have := h y hy
 simp at hx
 rcases hx with rfl | rfl <;> omega
theorem digs_val {l : List Int} (h : U64 l) : v32 (digs l) = val l := by
 induction l with
 | nil => rfl
 | cons x l ih =>
   have hx := h x (by simp)
   have ih := ih fun z hz => h z (by simp [hz])
   unfold digs at ih
   simp only [digs, List.flatMap_cons, List.cons_append, List.nil_append, v32, val, ih]
   omega
theorem H32.app {l m : List Int} (h : H32 l) (h' : H32 m) : H32 (l ++ m) := fun x hx => by
 rcases List.mem_append.1 hx with hx | hx
 ·exact h x hx
 ·exact h' x hx
structure Rnd (x y cy S1 S P C : Int) : Prop where
 s1 : S1 = x + y
 s : S = x + y + cy
 p : P = (x + y + cy) % 4294967296
 c : C = (x + y + cy) / 4294967296
theorem Rnd.mk' {x y cy S1 S P C : Int} (hx : 0 ≤ x ∧ x < 4294967296) (hy : 0 ≤ y ∧ y < 4294967296) (hc : 0 ≤ cy ∧ cy ≤ 4294967296) (r1 : IntKind.u64.wrap (x + y) = S1) (r2 : IntKind.u64.wrap (S1 + cy) = S) (r3 : S.tmod 4294967296 = P) (r4 : IntKind.u64.wrap (S.tdiv 4294967296) = C) : Rnd x y cy S1 S P C := by
 have e1 : S1 = x + y := by rw [← r1]; simp [IntKind.wrap, IntKind.bits, IntKind.signed]; omega
 have e2 : S = x + y + cy := by rw [← r2, e1]; simp [IntKind.wrap, IntKind.bits, IntKind.signed]; omega
 refine ⟨e1, e2, ?_, ?_⟩
 ·rw [← r3, e2, Int.tmod_eq_emod_of_nonneg (by omega)]
 ·rw [← r4, e2, Int.tdiv_eq_ediv_of_nonneg (by omega)]
  simp [IntKind.wrap, IntKind.bits, IntKind.signed]
  omega
theorem ref_Add (A B : Option Addr) (c d : Nat) (l m : List Int) (w : World) (h : RdI w .u64 A l) (hn : l.length ≤ c) (h9 : l.length ≤ 100000) (h' : RdI w .u64 B m) (hn' : m.length ≤ d) (h9' : m.length ≤ 100000) (hu : U64 l) (hu' : U64 m) :
    Calls Tryz.prog 258 #[.slice A l.length c, .slice B m.length d] w fun e w' => ∃ v, e = .returned v ∧ OwnI w' w.heap.size 112 .u64 v (limbs (val l + val m)) ∧ Below w.heap.size w w' := by
 obtain ⟨i0, hi0, hz0, hz1, hz2⟩ := info_split Tryz.infU64
 have D1 := Hd.mk (ref_Digits A c l w h hn (by omega) hu)
 have D2 := Hd.mk (fun W hW => ref_Digits B d m W (h'.up hW) hn' (by omega) hu')
 have HH : Hd (H32 (digs l) ∧ H32 (digs m)) := ⟨digs_h32 hu, digs_h32 hu'⟩
 have HVV : Hd (v32 (digs l) = val l ∧ v32 (digs m) = val m) := ⟨digs_val hu, digs_val hu'⟩
 have hX1 := digs_len l
 have hY1 := digs_len m
 obtain ⟨X, hX⟩ : ∃ X, digs l = X := ⟨_, rfl⟩
 obtain ⟨Y, hY⟩ : ∃ Y, digs m = Y := ⟨_, rfl⟩
 rw [hX] at D1 HH HVV hX1
 rw [hY] at D2 HH HVV hY1
 have hX9 : X.length ≤ 200000 := by omega
 have hY9 : Y.length ≤ 200000 := by omega
 clear h h' hu hu' hX hY hX1 hY1
 go_enter Tryz.func258, Tryz.ntmps258
 go_wp2_with fail
 refine D1.out.mono ?_
 rintro e w1 ⟨v1, rfl, ho1, hb1⟩
 obtain ⟨A1, c1, rfl, hc1, _, hr1⟩ := ho1.reads
 have HX := Hd.mk hr1
 have D3 := Hd.mk (D2.out w1 hb1)
 have B1 := Hd.mk hb1
 clear ho1 hr1 hb1 D1 D2
 go_wp2_with fail
 refine D3.out.mono ?_
 rintro e w2 ⟨v2, rfl, ho2, hb2⟩
 obtain ⟨A2, c2, rfl, hc2, _, hr2⟩ := ho2.reads
 have HY := Hd.mk hr2
 have BX := Hd.mk hb2
 have BX2 := Hd.mk (B1.out.trans (hb2.mono B1.out.size))
 clear ho2 hr2 hb2 D3
 have HO0 := Hd.mk (show OwnI (w2.alloc (.cells #[] 112)) w2.heap.size 112 .u64 (.slice (some ⟨w2.heap.size, 0, none⟩) 0 0) [] from World.ownsRow_lit w2 #[] 0 (Nat.le_refl _) (by unfold maxLen; omega) rfl)
 obtain ⟨N, hN⟩ : ∃ N, N = max X.length Y.length := ⟨_, rfl⟩
 have hXN : X.length ≤ N := by omega
 have hYN : Y.length ≤ N := by omega
 have hN9 : N ≤ 200000 := by omega
 have HNN : Hd (N ≤ X.length ∨ N ≤ Y.length) := ⟨by omega⟩
 clear hN
 go_wp2_with fail
 go_loopw [7, 8, 9] (fun v7 v8 v9 wr => ∃ (i : Nat) (F : List Int) (cy : Int), v9 = .int .i64 i ∧ v8 = .int .u64 cy ∧ i ≤ N + 1 ∧ F.length = i ∧ Hd (OwnI wr w2.heap.size 112 .u64 v7 F) ∧ Hd (H32 F) ∧ Hd (0 ≤ cy ∧ cy ≤ 1) ∧ Hd (N < i → cy = 0) ∧
  Hd (v32 F + 4294967296 ^ i * cy.toNat = v32 (X.take i) + v32 (Y.take i)) ∧ Hd (Below w2.heap.size w2 wr)) (fun _ _ v _ => N + 2 - (intOf v).toNat)
 case atStart => exact ⟨0, [], 0, rfl, rfl, by omega, rfl, HO0, ⟨fun x h => by cases h⟩, ⟨by omega⟩, ⟨fun _ => rfl⟩, ⟨by simp [v32]⟩, ⟨(Below.refl _ _).alloc (Nat.le_refl _) _⟩⟩
 case round =>
  obtain ⟨i, F, cy, rfl, rfl, hi, hFl, ho, hF, hcy, hz, hv, hb⟩ := hrel
  have i3 : (0 : Int) ≤ i := by omega
  by_cases h1 : i < X.length
  ·have i1 : (i : Int) < X.length := by omega
   have hiN : i ≤ N := by omega
   obtain ⟨x, hx⟩ : ∃ x, X.getD i 0 = x := ⟨_, rfl⟩
   obtain ⟨y, hy⟩ : ∃ y, Y.getD i 0 = y := ⟨_, rfl⟩
   have K1 := Hd.mk (ref_at A1 c1 X (i : Int) i rfl wr (HX.out.up (BX.out.trans (hb.out.mono BX.out.size))) hc1 (by omega) (by omega))
   have K2 := Hd.mk (ref_at A2 c2 Y (i : Int) i rfl wr (HY.out.up hb.out) hc2 (by omega) (by omega))
   rw [hx] at K1
   rw [hy] at K2
   obtain ⟨S1, r1⟩ : ∃ S1, IntKind.u64.wrap (x + y) = S1 := ⟨_, rfl⟩
   obtain ⟨S, r2⟩ : ∃ S, IntKind.u64.wrap (S1 + cy) = S := ⟨_, rfl⟩
   obtain ⟨P, r3⟩ : ∃ P, S.tmod 4294967296 = P := ⟨_, rfl⟩
   obtain ⟨C, r4⟩ : ∃ C, IntKind.u64.wrap (S.tdiv 4294967296) = C := ⟨_, rfl⟩
   have hxb := HH.out.1.at_ i
   have hyb := HH.out.2.at_ i
   rw [hx] at hxb
   rw [hy] at hyb
   have RR := Hd.mk (Rnd.mk' hxb hyb ⟨hcy.out.1, by have := hcy.out.2; omega⟩ r1 r2 r3 r4)
   have HXB := Hd.mk (And.intro hxb hyb)
   have HV : Hd (v32 (F ++ [P]) + 4294967296 ^ (i + 1) * C.toNat = v32 (X.take (i + 1)) + v32 (Y.take (i + 1))) := ⟨by
    have e := hv.out
    have b1 := hcy.out
    rw [v32_app, v32_take_succ, v32_take_succ, hx, hy, hFl, Nat.pow_succ]
    have q1 := RR.out.p
    have q2 := RR.out.c
    generalize 4294967296 ^ i = B at e
    have d : P.toNat + 4294967296 * C.toNat = x.toNat + y.toNat + cy.toNat := by omega
    simp only [v32, Nat.mul_zero, Nat.add_zero]
    have e3 : B * P.toNat + B * 4294967296 * C.toNat = B * x.toNat + B * y.toNat + B * cy.toNat := by
     rw [Nat.mul_assoc, ← Nat.mul_add, d, Nat.mul_add, Nat.mul_add]
    omega⟩
   have HC : Hd (0 ≤ C ∧ C ≤ 1) := ⟨by have := RR.out.c; have := hcy.out; omega⟩
   have HZ : Hd (N < i + 1 → C = 0) := ⟨fun hh => by
    have e1 : x = 0 := by rw [← hx]; exact getD_out (by omega)
    have e2 : y = 0 := by rw [← hy]; exact getD_out (by omega)
    have := RR.out.c; have := hcy.out; omega⟩
   have HF : Hd (H32 (F ++ [P])) := ⟨hF.out.app fun z hz => by rw [List.mem_singleton.1 hz]; have := RR.out.p; omega⟩
   clear hx hy hxb hyb
   have OO := Hd.mk (ho.out.al (.cells #[.int .u64 P] 112))
   have RN := Hd.mk (Rd.new_ wr #[.int .u64 P] 112 1 1 rfl)
   have BB := Hd.mk (hb.out.alloc hb.out.size (.cells #[.int .u64 P] 112))
   have XS := Hd.mk BB.out.size
   have x63 : F.length + 1 ≤ maxLen := by unfold maxLen; omega
   have xby : (F.length + 1) * 8 ≤ 140737488355328 := by omega
   have hFl2 : (F ++ [P]).length = i + 1 := by rw [List.length_append, hFl]; rfl
   have HFL := Hd.mk hFl
   have HFL2 := Hd.mk hFl2
   clear hFl hFl2
   go_wp2_with fail
   refine K1.out.mono ?_
   rintro e w' ⟨rfl, rfl⟩
   go_wp2_with fail
   refine K2.out.mono ?_
   rintro e w' ⟨rfl, rfl⟩
   go_wp2_with (at_builtin; refine wpList_append_rd _ rfl _ _ 61 rfl w2.heap.size 112 i0 (.int .u64 0) 1 8 Tryz.slU64 hi0 hz0 hz1 hz2 rfl (by decide) _ F.length (ints .u64 F) rfl OO.out _ _ 1 _ (ints .u64 [P]) rfl RN.out (ints_one _ _) x63 xby XS.out ?_)
   intro v' w6 ho6 hg6 _
   have O6 := Hd.mk (show OwnI w6 w2.heap.size 112 .u64 v' (F ++ [P]) from by unfold OwnI; rw [List.length_append, ints_app]; exact ho6)
   have B6 := Hd.mk (grown_below OO.out hg6 BB.out XS.out)
   clear ho6 hg6
   go_wp2_with fail
   go_roundw
   case measure => first | (simp [intOf]; done) | (simp [intOf]; omega)
   case rel => exact ⟨i + 1, F ++ [P], C, by go_num, rfl, by omega, HFL2.out, O6, HF, HC, HZ, HV, B6⟩
  ·have i1 : ¬ (i : Int) < X.length := by omega
   by_cases h2 : i < Y.length
   ·have i2 : (i : Int) < Y.length := by omega
    have hiN : i ≤ N := by omega
    obtain ⟨x, hx⟩ : ∃ x, X.getD i 0 = x := ⟨_, rfl⟩
    obtain ⟨y, hy⟩ : ∃ y, Y.getD i 0 = y := ⟨_, rfl⟩
    have K1 := Hd.mk (ref_at A1 c1 X (i : Int) i rfl wr (HX.out.up (BX.out.trans (hb.out.mono BX.out.size))) hc1 (by omega) (by omega))
    have K2 := Hd.mk (ref_at A2 c2 Y (i : Int) i rfl wr (HY.out.up hb.out) hc2 (by omega) (by omega))
    rw [hx] at K1
    rw [hy] at K2
    obtain ⟨S1, r1⟩ : ∃ S1, IntKind.u64.wrap (x + y) = S1 := ⟨_, rfl⟩
    obtain ⟨S, r2⟩ : ∃ S, IntKind.u64.wrap (S1 + cy) = S := ⟨_, rfl⟩
    obtain ⟨P, r3⟩ : ∃ P, S.tmod 4294967296 = P := ⟨_, rfl⟩
    obtain ⟨C, r4⟩ : ∃ C, IntKind.u64.wrap (S.tdiv 4294967296) = C := ⟨_, rfl⟩
    have hxb := HH.out.1.at_ i
    have hyb := HH.out.2.at_ i
    rw [hx] at hxb
    rw [hy] at hyb
    have RR := Hd.mk (Rnd.mk' hxb hyb ⟨hcy.out.1, by have := hcy.out.2; omega⟩ r1 r2 r3 r4)
    have HXB := Hd.mk (And.intro hxb hyb)
    have HV : Hd (v32 (F ++ [P]) + 4294967296 ^ (i + 1) * C.toNat = v32 (X.take (i + 1)) + v32 (Y.take (i + 1))) := ⟨by
     have e := hv.out
     have b1 := hcy.out
     rw [v32_app, v32_take_succ, v32_take_succ, hx, hy, hFl, Nat.pow_succ]
     have q1 := RR.out.p
     have q2 := RR.out.c
     generalize 4294967296 ^ i = B at e
     have d : P.toNat + 4294967296 * C.toNat = x.toNat + y.toNat + cy.toNat := by omega
     simp only [v32, Nat.mul_zero, Nat.add_zero]
     have e3 : B * P.toNat + B * 4294967296 * C.toNat = B * x.toNat + B * y.toNat + B * cy.toNat := by
      rw [Nat.mul_assoc, ← Nat.mul_add, d, Nat.mul_add, Nat.mul_add]
     omega⟩
    have HC : Hd (0 ≤ C ∧ C ≤ 1) := ⟨by have := RR.out.c; have := hcy.out; omega⟩
    have HZ : Hd (N < i + 1 → C = 0) := ⟨fun hh => by
     have e1 : x = 0 := by rw [← hx]; exact getD_out (by omega)
     have e2 : y = 0 := by rw [← hy]; exact getD_out (by omega)
     have := RR.out.c; have := hcy.out; omega⟩
    have HF : Hd (H32 (F ++ [P])) := ⟨hF.out.app fun z hz => by rw [List.mem_singleton.1 hz]; have := RR.out.p; omega⟩
    clear hx hy hxb hyb
    have OO := Hd.mk (ho.out.al (.cells #[.int .u64 P] 112))
    have RN := Hd.mk (Rd.new_ wr #[.int .u64 P] 112 1 1 rfl)
    have BB := Hd.mk (hb.out.alloc hb.out.size (.cells #[.int .u64 P] 112))
    have XS := Hd.mk BB.out.size
    have x63 : F.length + 1 ≤ maxLen := by unfold maxLen; omega
    have xby : (F.length + 1) * 8 ≤ 140737488355328 := by omega
    have hFl2 : (F ++ [P]).length = i + 1 := by rw [List.length_append, hFl]; rfl
    have HFL := Hd.mk hFl
    have HFL2 := Hd.mk hFl2
    clear hFl hFl2
    go_wp2_with fail
    refine K1.out.mono ?_
    rintro e w' ⟨rfl, rfl⟩
    go_wp2_with fail
    refine K2.out.mono ?_
    rintro e w' ⟨rfl, rfl⟩
    go_wp2_with (at_builtin; refine wpList_append_rd _ rfl _ _ 61 rfl w2.heap.size 112 i0 (.int .u64 0) 1 8 Tryz.slU64 hi0 hz0 hz1 hz2 rfl (by decide) _ F.length (ints .u64 F) rfl OO.out _ _ 1 _ (ints .u64 [P]) rfl RN.out (ints_one _ _) x63 xby XS.out ?_)
    intro v' w6 ho6 hg6 _
    have O6 := Hd.mk (show OwnI w6 w2.heap.size 112 .u64 v' (F ++ [P]) from by unfold OwnI; rw [List.length_append, ints_app]; exact ho6)
    have B6 := Hd.mk (grown_below OO.out hg6 BB.out XS.out)
    clear ho6 hg6
    go_wp2_with fail
    go_roundw
    case measure => first | (simp [intOf]; done) | (simp [intOf]; omega)
    case rel => exact ⟨i + 1, F ++ [P], C, by go_num, rfl, by omega, HFL2.out, O6, HF, HC, HZ, HV, B6⟩
   ·have i2 : ¬ (i : Int) < Y.length := by omega
    by_cases h3 : 0 < cy
    ·have hiN : i ≤ N := by
       rcases Nat.lt_or_ge N i with hh | hh
       ·have := hz.out hh; omega
       ·exact hh
     obtain ⟨x, hx⟩ : ∃ x, X.getD i 0 = x := ⟨_, rfl⟩
     obtain ⟨y, hy⟩ : ∃ y, Y.getD i 0 = y := ⟨_, rfl⟩
     have K1 := Hd.mk (ref_at A1 c1 X (i : Int) i rfl wr (HX.out.up (BX.out.trans (hb.out.mono BX.out.size))) hc1 (by omega) (by omega))
     have K2 := Hd.mk (ref_at A2 c2 Y (i : Int) i rfl wr (HY.out.up hb.out) hc2 (by omega) (by omega))
     rw [hx] at K1
     rw [hy] at K2
     obtain ⟨S1, r1⟩ : ∃ S1, IntKind.u64.wrap (x + y) = S1 := ⟨_, rfl⟩
     obtain ⟨S, r2⟩ : ∃ S, IntKind.u64.wrap (S1 + cy) = S := ⟨_, rfl⟩
     obtain ⟨P, r3⟩ : ∃ P, S.tmod 4294967296 = P := ⟨_, rfl⟩
     obtain ⟨C, r4⟩ : ∃ C, IntKind.u64.wrap (S.tdiv 4294967296) = C := ⟨_, rfl⟩
     have hxb := HH.out.1.at_ i
     have hyb := HH.out.2.at_ i
     rw [hx] at hxb
     rw [hy] at hyb
     have RR := Hd.mk (Rnd.mk' hxb hyb ⟨hcy.out.1, by have := hcy.out.2; omega⟩ r1 r2 r3 r4)
     have HXB := Hd.mk (And.intro hxb hyb)
     have HV : Hd (v32 (F ++ [P]) + 4294967296 ^ (i + 1) * C.toNat = v32 (X.take (i + 1)) + v32 (Y.take (i + 1))) := ⟨by
      have e := hv.out
      have b1 := hcy.out
      rw [v32_app, v32_take_succ, v32_take_succ, hx, hy, hFl, Nat.pow_succ]
      have q1 := RR.out.p
      have q2 := RR.out.c
      generalize 4294967296 ^ i = B at e
      have d : P.toNat + 4294967296 * C.toNat = x.toNat + y.toNat + cy.toNat := by omega
      simp only [v32, Nat.mul_zero, Nat.add_zero]
      have e3 : B * P.toNat + B * 4294967296 * C.toNat = B * x.toNat + B * y.toNat + B * cy.toNat := by
       rw [Nat.mul_assoc, ← Nat.mul_add, d, Nat.mul_add, Nat.mul_add]
      omega⟩
     have HC : Hd (0 ≤ C ∧ C ≤ 1) := ⟨by have := RR.out.c; have := hcy.out; omega⟩
     have HZ : Hd (N < i + 1 → C = 0) := ⟨fun hh => by
      have e1 : x = 0 := by rw [← hx]; exact getD_out (by omega)
      have e2 : y = 0 := by rw [← hy]; exact getD_out (by omega)
      have := RR.out.c; have := hcy.out; omega⟩
     have HF : Hd (H32 (F ++ [P])) := ⟨hF.out.app fun z hz => by rw [List.mem_singleton.1 hz]; have := RR.out.p; omega⟩
     clear hx hy hxb hyb
     have OO := Hd.mk (ho.out.al (.cells #[.int .u64 P] 112))
     have RN := Hd.mk (Rd.new_ wr #[.int .u64 P] 112 1 1 rfl)
     have BB := Hd.mk (hb.out.alloc hb.out.size (.cells #[.int .u64 P] 112))
     have XS := Hd.mk BB.out.size
     have x63 : F.length + 1 ≤ maxLen := by unfold maxLen; omega
     have xby : (F.length + 1) * 8 ≤ 140737488355328 := by omega
     have hFl2 : (F ++ [P]).length = i + 1 := by rw [List.length_append, hFl]; rfl
     have HFL := Hd.mk hFl
     have HFL2 := Hd.mk hFl2
     clear hFl hFl2
     go_wp2_with fail
     refine K1.out.mono ?_
     rintro e w' ⟨rfl, rfl⟩
     go_wp2_with fail
     refine K2.out.mono ?_
     rintro e w' ⟨rfl, rfl⟩
     go_wp2_with (at_builtin; refine wpList_append_rd _ rfl _ _ 61 rfl w2.heap.size 112 i0 (.int .u64 0) 1 8 Tryz.slU64 hi0 hz0 hz1 hz2 rfl (by decide) _ F.length (ints .u64 F) rfl OO.out _ _ 1 _ (ints .u64 [P]) rfl RN.out (ints_one _ _) x63 xby XS.out ?_)
     intro v' w6 ho6 hg6 _
     have O6 := Hd.mk (show OwnI w6 w2.heap.size 112 .u64 v' (F ++ [P]) from by unfold OwnI; rw [List.length_append, ints_app]; exact ho6)
     have B6 := Hd.mk (grown_below OO.out hg6 BB.out XS.out)
     clear ho6 hg6
     go_wp2_with fail
     go_roundw
     case measure => first | (simp [intOf]; done) | (simp [intOf]; omega)
     case rel => exact ⟨i + 1, F ++ [P], C, by go_num, rfl, by omega, HFL2.out, O6, HF, HC, HZ, HV, B6⟩
    ·have HE : Hd (v32 F = val l + val m) := ⟨by
       have e := hv.out
       have : cy = 0 := by have := hcy.out; omega
       rw [this, List.take_of_length_le (by omega), List.take_of_length_le (by omega), HVV.out.1, HVV.out.2] at e
       simpa using e⟩
     obtain ⟨A', c', rfl, hc', _, hr⟩ := ho.out.reads
     have CW := Hd.mk (ref_Whole A' c' F wr hr hc' (by omega) hF.out)
     rw [HE.out] at CW
     clear hr ho hFl
     go_wp2_with fail
     refine CW.out.mono ?_
     rintro e w4 ⟨v, rfl, ho4, hb4⟩
     have B0 := Hd.mk (BX2.out.trans (hb.out.mono BX2.out.size))
     have O4 := Hd.mk (ho4.low B0.out.size)
     have B4 := Hd.mk (B0.out.trans (hb4.mono B0.out.size))
     clear ho4 hb4
     go_wp2_with fail
     go_ret
     exact ⟨_, rfl, O4.out, B4.out⟩
structure Dif (x y b T1 T2 S P Q C : Int) : Prop where
 s : S = x + 4294967296 - y - b
 p : P = (x + 4294967296 - y - b) % 4294967296
 c : C = 1 - (x + 4294967296 - y - b) / 4294967296
theorem Dif.mk' {x y b T1 T2 S P Q C : Int} (hx : 0 ≤ x ∧ x < 4294967296) (hy : 0 ≤ y ∧ y < 4294967296) (hb : 0 ≤ b ∧ b ≤ 1) (r1 : IntKind.u64.wrap (x + 4294967296) = T1) (r2 : IntKind.u64.wrap (T1 - y) = T2) (r3 : IntKind.u64.wrap (T2 - b) = S)
    (r4 : S.tmod 4294967296 = P) (r5 : IntKind.u64.wrap (S.tdiv 4294967296) = Q) (r6 : IntKind.u64.wrap (1 - Q) = C) : Dif x y b T1 T2 S P Q C := by
 have e1 : T1 = x + 4294967296 := by rw [← r1]; simp [IntKind.wrap, IntKind.bits, IntKind.signed]; omega
 have e2 : T2 = x + 4294967296 - y := by rw [← r2, e1]; simp [IntKind.wrap, IntKind.bits, IntKind.signed]; omega
 have e3 : S = x + 4294967296 - y - b := by rw [← r3, e2]; simp [IntKind.wrap, IntKind.bits, IntKind.signed]; omega
 have e4 : Q = (x + 4294967296 - y - b) / 4294967296 := by
  rw [← r5, e3, Int.tdiv_eq_ediv_of_nonneg (by omega)]
  simp [IntKind.wrap, IntKind.bits, IntKind.signed]
  omega
 refine ⟨e3, ?_, ?_⟩
 ·rw [← r4, e3, Int.tmod_eq_emod_of_nonneg (by omega)]
 ·rw [← r6, e4]; simp [IntKind.wrap, IntKind.bits, IntKind.signed]; omega
theorem v32_lt {d : List Int} (h : H32 d) : v32 d < 4294967296 ^ d.length := by
 induction d with
 | nil => simp [v32]
 | cons x d ih =>
   have hx := h x (by simp)
   have ih := ih fun z hz => h z (by simp [hz])
   simp only [v32, List.length_cons, Nat.pow_succ]
   rw [Nat.mul_comm]
   omega
theorem H32.take {d : List Int} (h : H32 d) (n : Nat) : H32 (d.take n) := fun x hx => h x (List.mem_of_mem_take hx)
theorem H32.drop {d : List Int} (h : H32 d) (n : Nat) : H32 (d.drop n) := fun x hx => h x (List.mem_of_mem_drop hx)
theorem v32_take_small {Y : List Int} {n : Nat} (h : v32 Y < 4294967296 ^ n) : v32 (Y.take n) = v32 Y := by
 rcases Nat.lt_or_ge n Y.length with hn | hn
 ·have e : v32 Y = v32 (Y.take n) + 4294967296 ^ n * v32 (Y.drop n) := by
    conv => lhs; rw [← List.take_append_drop n Y]
    rw [v32_app, List.length_take, Nat.min_eq_left (by omega)]
  have : v32 (Y.drop n) = 0 := by
   rcases Nat.eq_zero_or_pos (v32 (Y.drop n)) with h0 | h0
   ·exact h0
   ·have := Nat.mul_le_mul_left (4294967296 ^ n) h0
    omega
  rw [this] at e; simpa using e.symm
 ·rw [List.take_of_length_le hn]
theorem ref_Sub (A B : Option Addr) (c d : Nat) (l m : List Int) (w : World) (h : RdI w .u64 A l) (hn : l.length ≤ c) (h9 : l.length ≤ 100000) (h' : RdI w .u64 B m) (hn' : m.length ≤ d) (h9' : m.length ≤ 100000) (hu : U64 l) (hu' : U64 m) :
    Calls Tryz.prog 262 #[.slice A l.length c, .slice B m.length d] w fun e w' => ∃ v, e = .returned (.tuple #[v, .bool (decide (val m ≤ val l))]) ∧ OwnI w' w.heap.size 112 .u64 v (limbs (val l - val m)) ∧ Below w.heap.size w w' := by
 obtain ⟨i0, hi0, hz0, hz1, hz2⟩ := info_split Tryz.infU64
 have CC := Hd.mk (ref_Cmp A B c d l m w h hn (by omega) h' hn' (by omega) hu hu')
 rcases Nat.lt_or_ge (val l) (val m) with hlm | hlm
 ·rw [cmpN_lt hlm] at CC
  have HE : Hd (decide (val m ≤ val l) = false ∧ limbs (val l - val m) = []) := ⟨decide_eq_false (by omega), by rw [show val l - val m = 0 by omega]; exact limbs_zero⟩
  clear h h' hu hu' hlm
  go_enter Tryz.func262, Tryz.ntmps262
  go_wp2_with fail
  refine CC.out.mono ?_
  rintro e w' ⟨rfl, rfl⟩
  go_wp2_with fail
  go_ret2
  rw [HE.out.1, HE.out.2]
  exact ⟨_, rfl, OwnI.nil _ _ _ _, .refl _ _⟩
 ·obtain ⟨k, hk⟩ : ∃ k, cmpN (val l) (val m) = k := ⟨_, rfl⟩
  have hk0 : 0 ≤ k := by
   rw [← hk]; unfold cmpN
   rw [if_neg (by omega)]
   split <;> omega
  rw [hk] at CC
  have hk1 : decide (k < 0) = false := decide_eq_false (by omega)
  have HLM := Hd.mk hlm
  have D1 := Hd.mk (ref_Digits A c l w h hn (by omega) hu)
  have D2 := Hd.mk (fun W hW => ref_Digits B d m W (h'.up hW) hn' (by omega) hu')
  have HH : Hd (H32 (digs l) ∧ H32 (digs m)) := ⟨digs_h32 hu, digs_h32 hu'⟩
  have HVV : Hd (v32 (digs l) = val l ∧ v32 (digs m) = val m) := ⟨digs_val hu, digs_val hu'⟩
  have hX1 := digs_len l
  have hY1 := digs_len m
  obtain ⟨X, hX⟩ : ∃ X, digs l = X := ⟨_, rfl⟩
  obtain ⟨Y, hY⟩ : ∃ Y, digs m = Y := ⟨_, rfl⟩
  rw [hX] at D1 HH HVV hX1
  rw [hY] at D2 HH HVV hY1
  have hX9 : X.length ≤ 200000 := by omega
  have hY9 : Y.length ≤ 200000 := by omega
  clear h h' hu hu' hX hY hX1 hY1 hk hlm
  go_enter Tryz.func262, Tryz.ntmps262
  go_wp2_with fail
  refine CC.out.mono ?_
  rintro e w' ⟨rfl, rfl⟩
  go_wp2_with fail
  refine D1.out.mono ?_
  rintro e w1 ⟨v1, rfl, ho1, hb1⟩
  obtain ⟨A1, c1, rfl, hc1, _, hr1⟩ := ho1.reads
  have HX := Hd.mk hr1
  have D3 := Hd.mk (D2.out w1 hb1)
  have B1 := Hd.mk hb1
  clear ho1 hr1 hb1 D1 D2 CC
  go_wp2_with fail
  refine D3.out.mono ?_
  rintro e w2 ⟨v2, rfl, ho2, hb2⟩
  obtain ⟨A2, c2, rfl, hc2, _, hr2⟩ := ho2.reads
  have HY := Hd.mk hr2
  have BX := Hd.mk hb2
  have BX2 := Hd.mk (B1.out.trans (hb2.mono B1.out.size))
  clear ho2 hr2 hb2 D3
  have HO0 := Hd.mk (show OwnI (w2.alloc (.cells #[] 112)) w2.heap.size 112 .u64 (.slice (some ⟨w2.heap.size, 0, none⟩) 0 0) [] from World.ownsRow_lit w2 #[] 0 (Nat.le_refl _) (by unfold maxLen; omega) rfl)
  go_wp2_with fail
  go_loopw [8, 9, 10] (fun v8 v9 v10 wr => ∃ (i : Nat) (F : List Int) (b : Int), v10 = .int .i64 i ∧ v9 = .int .u64 b ∧ i ≤ X.length ∧ F.length = i ∧ Hd (OwnI wr w2.heap.size 112 .u64 v8 F) ∧ Hd (H32 F) ∧ Hd (0 ≤ b ∧ b ≤ 1) ∧
   Hd (v32 (X.take i) + 4294967296 ^ i * b.toNat = v32 F + v32 (Y.take i)) ∧ Hd (Below w2.heap.size w2 wr)) (fun _ _ v _ => X.length - (intOf v).toNat)
  case atStart => exact ⟨0, [], 0, rfl, rfl, by omega, rfl, HO0, ⟨fun x h => by cases h⟩, ⟨by omega⟩, ⟨by simp [v32]⟩, ⟨(Below.refl _ _).alloc (Nat.le_refl _) _⟩⟩
  case round =>
   obtain ⟨i, F, b, rfl, rfl, hi, hFl, ho, hF, hcy, hv, hb⟩ := hrel
   have i3 : (0 : Int) ≤ i := by omega
   by_cases h1 : i < X.length
   ·have i1 : (i : Int) < X.length := by omega
    obtain ⟨ad, x, rfl, _, hx, hcx⟩ := (HX.out.up (BX.out.trans (hb.out.mono BX.out.size))).get h1
    obtain ⟨y, hy⟩ : ∃ y, Y.getD i 0 = y := ⟨_, rfl⟩
    have K2 := Hd.mk (fun W (hW : RdI W .u64 A2 Y) => ref_at A2 c2 Y (i : Int) i rfl W hW hc2 (by omega) (by omega))
    rw [hy] at K2
    have K2 := Hd.mk (K2.out wr.drew (HY.out.up hb.out.drew))
    obtain ⟨T1, r1⟩ : ∃ T1, IntKind.u64.wrap (x + 4294967296) = T1 := ⟨_, rfl⟩
    obtain ⟨T2, r2⟩ : ∃ T2, IntKind.u64.wrap (T1 - y) = T2 := ⟨_, rfl⟩
    obtain ⟨S, r3⟩ : ∃ S, IntKind.u64.wrap (T2 - b) = S := ⟨_, rfl⟩
    obtain ⟨P, r4⟩ : ∃ P, S.tmod 4294967296 = P := ⟨_, rfl⟩
    obtain ⟨Q, r5⟩ : ∃ Q, IntKind.u64.wrap (S.tdiv 4294967296) = Q := ⟨_, rfl⟩
    obtain ⟨C, r6⟩ : ∃ C, IntKind.u64.wrap (1 - Q) = C := ⟨_, rfl⟩
    have hxb := HH.out.1.at_ i
    have hyb := HH.out.2.at_ i
    rw [hx.out] at hxb
    rw [hy] at hyb
    have RR := Hd.mk (Dif.mk' hxb hyb hcy.out r1 r2 r3 r4 r5 r6)
    have HV : Hd (v32 (X.take (i + 1)) + 4294967296 ^ (i + 1) * C.toNat = v32 (F ++ [P]) + v32 (Y.take (i + 1))) := ⟨by
     have e := hv.out
     have b1 := hcy.out
     rw [v32_app, v32_take_succ, v32_take_succ, hx.out, hy, hFl, Nat.pow_succ]
     have q1 := RR.out.p
     have q2 := RR.out.c
     generalize 4294967296 ^ i = B at e
     have d : x.toNat + 4294967296 * C.toNat = P.toNat + y.toNat + b.toNat := by omega
     simp only [v32, Nat.mul_zero, Nat.add_zero]
     have e3 : B * x.toNat + B * 4294967296 * C.toNat = B * P.toNat + B * y.toNat + B * b.toNat := by
      rw [Nat.mul_assoc, ← Nat.mul_add, d, Nat.mul_add, Nat.mul_add]
     omega⟩
    have HC : Hd (0 ≤ C ∧ C ≤ 1) := ⟨by have := RR.out.c; have := hcy.out; omega⟩
    have HF : Hd (H32 (F ++ [P])) := ⟨hF.out.app fun z hz => by rw [List.mem_singleton.1 hz]; have := RR.out.p; omega⟩
    clear hx hy hxb hyb
    have OO := Hd.mk (ho.out.d1.al (.cells #[.int .u64 P] 112))
    have RN := Hd.mk (Rd.new_ wr.drew #[.int .u64 P] 112 1 1 rfl)
    have BB := Hd.mk (hb.out.drew.alloc hb.out.size (.cells #[.int .u64 P] 112))
    have XS := Hd.mk BB.out.size
    have x63 : F.length + 1 ≤ maxLen := by unfold maxLen; omega
    have xby : (F.length + 1) * 8 ≤ 140737488355328 := by omega
    have hFl2 : (F ++ [P]).length = i + 1 := by rw [List.length_append, hFl]; rfl
    have HFL2 := Hd.mk hFl2
    clear hFl hFl2
    go_wp2_with fail
    refine wp_region_any (by kernel_rfl) ?_
    try (change wpAny _ _ _ _ _ _ _ (World.drew _))
    refine takeP 0 27 (v := ?_) rfl rfl (by kernel_rfl) (by kernel_rfl) (by kernel_rfl) (fun _ _ _ h => h) (by kernel_rfl) ?_ ?_
    rotate_left
    ·intro w; first | (go_simp; done) | (go_simp; with_reducible rfl)
    simp only [Act.put, List.setIfInBounds_toArray, List.set_cons_zero, List.set_cons_succ]
    refine takeP 1 28 (v := ?_) rfl rfl (by kernel_rfl) (by kernel_rfl) (by kernel_rfl) (fun _ _ _ h => h) (by kernel_rfl) ?_ ?_
    rotate_left
    ·intro w; first | (go_simp; done) | (go_simp; with_reducible rfl)
    simp only [Act.put, List.setIfInBounds_toArray, List.set_cons_zero, List.set_cons_succ]
    refine takeP 2 29 (v := ?_) rfl rfl (by kernel_rfl) (by kernel_rfl) (by kernel_rfl) (fun _ _ _ h => h) (by kernel_rfl) ?_ ?_
    rotate_left
    ·intro w; first | (go_simp; done) | (go_simp; with_reducible rfl)
    simp only [Act.put, List.setIfInBounds_toArray, List.set_cons_zero, List.set_cons_succ]
    refine takeP 5 32 (v := ?_) rfl rfl (by kernel_rfl) (by kernel_rfl) (by kernel_rfl) (fun _ _ _ h => h) (by kernel_rfl) ?_ ?_
    rotate_left
    ·intro w; first | (go_simp; done) | (go_simp; with_reducible rfl)
    simp only [Act.put, List.setIfInBounds_toArray, List.set_cons_zero, List.set_cons_succ]
    refine takeP 6 33 (v := ?_) rfl rfl (by kernel_rfl) (by kernel_rfl) (by kernel_rfl) (fun _ _ _ h => h) (by kernel_rfl) ?_ ?_
    rotate_left
    ·intro w; first | (go_simp; done) | (go_simp; with_reducible rfl)
    simp only [Act.put, List.setIfInBounds_toArray, List.set_cons_zero, List.set_cons_succ]
    refine takeP 9 36 (v := ?_) rfl rfl (by kernel_rfl) (by kernel_rfl) (by kernel_rfl) (fun _ _ _ h => h) (by kernel_rfl) ?_ ?_
    rotate_left
    ·intro w; first | (go_simp; done) | (go_simp; with_reducible rfl)
    simp only [Act.put, List.setIfInBounds_toArray, List.set_cons_zero, List.set_cons_succ]
    refine wpAny_ready (rs := [3, 7]) (by kernel_rfl) (by simp) ?_
    refine AllReady.cons rfl (fun K hK => ?_) ?_
    go_simp
    refine hK _ _ ?_
    clear hK K
    refine takeP 4 31 (v := ?_) rfl rfl (by kernel_rfl) (by kernel_rfl) (by kernel_rfl) (fun _ _ _ h => h) (by kernel_rfl) ?_ ?_
    rotate_left
    ·intro w; first | (go_simp; done) | (go_simp; with_reducible rfl)
    simp only [Act.put, List.setIfInBounds_toArray, List.set_cons_zero, List.set_cons_succ]
    refine wpAny_ready (rs := [7]) (by kernel_rfl) (by simp) ?_
    refine AllReady.cons rfl (fun K hK => ?_) AllReady.nil
    go_simp
    refine K2.out.mono ?_
    rintro e w' ⟨rfl, rfl⟩
    dsimp only
    refine hK _ _ ?_
    clear hK K
    refine takeP 8 35 (v := ?_) rfl rfl (by kernel_rfl) (by kernel_rfl) (by kernel_rfl) (fun _ _ _ h => h) (by kernel_rfl) ?_ ?_
    rotate_left
    ·intro w; first | (go_simp; done) | (go_simp; with_reducible rfl)
    simp only [Act.put, List.setIfInBounds_toArray, List.set_cons_zero, List.set_cons_succ]
    refine takeP 10 37 (v := ?_) rfl rfl (by kernel_rfl) (by kernel_rfl) (by kernel_rfl) (fun _ _ _ h => h) (by kernel_rfl) ?_ ?_
    rotate_left
    ·intro w; first | (go_simp; done) | (go_simp; with_reducible rfl)
    simp only [Act.put, List.setIfInBounds_toArray, List.set_cons_zero, List.set_cons_succ]
    refine takeP 11 11 (v := ?_) rfl rfl (by kernel_rfl) (by kernel_rfl) (by kernel_rfl) (fun _ _ _ h => h) (by kernel_rfl) ?_ ?_
    rotate_left
    ·intro w; first | (go_simp; done) | (go_simp; with_reducible rfl)
    simp only [Act.put, List.setIfInBounds_toArray, List.set_cons_zero, List.set_cons_succ]
    refine wpAny_done (by kernel_rfl) ?_ _
    rotate_left
    refine AllReady.cons rfl (fun K hK => ?_) ?_
    go_simp
    refine K2.out.mono ?_
    rintro e w' ⟨rfl, rfl⟩
    dsimp only
    refine hK _ _ ?_
    clear hK K
    refine wpAny_ready (rs := [3]) (by kernel_rfl) (by simp) ?_
    refine AllReady.cons rfl (fun K hK => ?_) AllReady.nil
    go_simp
    refine hK _ _ ?_
    clear hK K
    refine takeP 4 31 (v := ?_) rfl rfl (by kernel_rfl) (by kernel_rfl) (by kernel_rfl) (fun _ _ _ h => h) (by kernel_rfl) ?_ ?_
    rotate_left
    ·intro w; first | (go_simp; done) | (go_simp; with_reducible rfl)
    simp only [Act.put, List.setIfInBounds_toArray, List.set_cons_zero, List.set_cons_succ]
    refine takeP 8 35 (v := ?_) rfl rfl (by kernel_rfl) (by kernel_rfl) (by kernel_rfl) (fun _ _ _ h => h) (by kernel_rfl) ?_ ?_
    rotate_left
    ·intro w; first | (go_simp; done) | (go_simp; with_reducible rfl)
    simp only [Act.put, List.setIfInBounds_toArray, List.set_cons_zero, List.set_cons_succ]
    refine takeP 10 37 (v := ?_) rfl rfl (by kernel_rfl) (by kernel_rfl) (by kernel_rfl) (fun _ _ _ h => h) (by kernel_rfl) ?_ ?_
    rotate_left
    ·intro w; first | (go_simp; done) | (go_simp; with_reducible rfl)
    simp only [Act.put, List.setIfInBounds_toArray, List.set_cons_zero, List.set_cons_succ]
    refine takeP 11 11 (v := ?_) rfl rfl (by kernel_rfl) (by kernel_rfl) (by kernel_rfl) (fun _ _ _ h => h) (by kernel_rfl) ?_ ?_
    rotate_left
    ·intro w; first | (go_simp; done) | (go_simp; with_reducible rfl)
    simp only [Act.put, List.setIfInBounds_toArray, List.set_cons_zero, List.set_cons_succ]
    refine wpAny_done (by kernel_rfl) ?_ _
    rotate_left
    exact AllReady.nil
    all_goals (
     go_wp2_with (at_builtin; refine wpList_append_rd _ rfl _ _ 61 rfl w2.heap.size 112 i0 (.int .u64 0) 1 8 Tryz.slU64 hi0 hz0 hz1 hz2 rfl (by decide) _ F.length (ints .u64 F) rfl OO.out _ _ 1 _ (ints .u64 [P]) rfl RN.out (ints_one _ _) x63 xby XS.out ?_)
     intro v' w6 ho6 hg6 _
     have O6 := Hd.mk (show OwnI w6 w2.heap.size 112 .u64 v' (F ++ [P]) from by unfold OwnI; rw [List.length_append, ints_app]; exact ho6)
     have B6 := Hd.mk (grown_below OO.out hg6 BB.out XS.out)
     clear ho6 hg6
     go_wp2_with fail
     go_roundw
     case measure => first | (simp [intOf]; done) | (simp [intOf]; omega)
     case rel => exact ⟨i + 1, F ++ [P], C, by go_num, rfl, by omega, HFL2.out, O6, HF, HC, HV, B6⟩)
   ·have hie : i = X.length := by omega
    have HE : Hd (v32 F = val l - val m) := ⟨by
     have e := hv.out
     have f1 := HVV.out
     have f2 := HLM.out
     have hYs : v32 Y < 4294967296 ^ X.length := by
      have := v32_lt HH.out.1
      omega
     rw [hie, List.take_length, v32_take_small hYs, f1.1, f1.2] at e
     have f3 := v32_lt hF.out
     rw [hFl, hie] at f3
     have f4 := hcy.out
     have f5 := v32_lt HH.out.1
     rw [f1.1] at f5
     have hb0 : b.toNat = 0 := by
      rcases Nat.eq_zero_or_pos b.toNat with h0 | h0
      ·exact h0
      ·have : b.toNat = 1 := by omega
       rw [this] at e
       omega
     rw [hb0] at e
     omega⟩
    have HD : Hd (decide (val m ≤ val l) = true) := ⟨decide_eq_true HLM.out⟩
    obtain ⟨A', c', rfl, hc', _, hr⟩ := ho.out.reads
    have CW := Hd.mk (ref_Whole A' c' F wr hr hc' (by omega) hF.out)
    rw [HE.out] at CW
    clear hr ho hFl hie
    go_wp2_with fail
    refine CW.out.mono ?_
    rintro e w4 ⟨v, rfl, ho4, hb4⟩
    have B0 := Hd.mk (BX2.out.trans (hb.out.mono BX2.out.size))
    have O4 := Hd.mk (ho4.low B0.out.size)
    have B4 := Hd.mk (B0.out.trans (hb4.mono B0.out.size))
    clear ho4 hb4
    go_wp2_with fail
    go_ret2
    rw [HD.out]
    exact ⟨_, rfl, O4.out, B4.out⟩
theorem v32_set (l : List Int) (i : Nat) (h : i < l.length) (s : Int) : v32 (l.set i s) + 4294967296 ^ i * (l.getD i 0).toNat = v32 l + 4294967296 ^ i * s.toNat := by
 induction l generalizing i with
 | nil => simp at h
 | cons x l ih =>
   cases i with
   | zero => simp [v32]; omega
   | succ i =>
     have ih := ih i (by simpa using h)
     simp only [List.set_cons_succ, v32, List.getD_cons_succ, Nat.pow_succ]
     rw [Nat.mul_comm (4294967296 ^ i), Nat.mul_assoc, Nat.mul_assoc]
     omega
theorem H32.set {l : List Int} (h : H32 l) (i : Nat) {x : Int} (h0 : 0 ≤ x ∧ x < 4294967296) : H32 (l.set i x) := by
 intro y hy
 rcases List.mem_or_eq_of_mem_set hy with hy | rfl
 ·exact h y hy
 ·exact h0
structure Prd (o x y cy M S1 S P C : Int) : Prop where
 p : P = (o + x * y + cy) % 4294967296
 c : C = (o + x * y + cy) / 4294967296
 cb : 0 ≤ C ∧ C < 4294967296
theorem Prd.mk' {o x y cy M S1 S P C : Int} (ho : 0 ≤ o ∧ o < 4294967296) (hx : 0 ≤ x ∧ x < 4294967296) (hy : 0 ≤ y ∧ y < 4294967296) (hc : 0 ≤ cy ∧ cy < 4294967296) (r1 : IntKind.u64.wrap (x * y) = M) (r2 : IntKind.u64.wrap (o + M) = S1) (r3 : IntKind.u64.wrap (S1 + cy) = S)
    (r4 : S.tmod 4294967296 = P) (r5 : IntKind.u64.wrap (S.tdiv 4294967296) = C) : Prd o x y cy M S1 S P C := by
 have b0 : 0 ≤ x * y := Int.mul_nonneg hx.1 hy.1
 have b1 : x * y ≤ 4294967295 * 4294967295 := Int.mul_le_mul (by omega) (by omega) hy.1 (by omega)
 obtain ⟨m, hm⟩ : ∃ m, x * y = m := ⟨_, rfl⟩
 rw [hm] at b0 b1 r1
 have e1 : M = m := by rw [← r1]; simp [IntKind.wrap, IntKind.bits, IntKind.signed]; omega
 have e2 : S1 = o + m := by rw [← r2, e1]; simp [IntKind.wrap, IntKind.bits, IntKind.signed]; omega
 have e3 : S = o + m + cy := by rw [← r3, e2]; simp [IntKind.wrap, IntKind.bits, IntKind.signed]; omega
 have e4 : C = (o + m + cy) / 4294967296 := by
  rw [← r5, e3, Int.tdiv_eq_ediv_of_nonneg (by omega)]
  simp [IntKind.wrap, IntKind.bits, IntKind.signed]
  omega
 refine ⟨?_, by rw [hm]; exact e4, by omega⟩
 rw [hm, ← r4, e3, Int.tmod_eq_emod_of_nonneg (by omega)]
theorem v32_zeros (n : Nat) : v32 (List.replicate n 0) = 0 := by
 induction n with
 | zero => rfl
 | succ n ih => rw [List.replicate_succ, v32, ih]; rfl
theorem mul_step32 {O : List Int} {T i k : Nat} {o x y cy P C : Int} {Y : List Int} {M S1 S : Int} (R : Prd o x y cy M S1 S P C) (hl : i + k < O.length) (ho : O.getD (i + k) 0 = o) (hy : Y.getD k 0 = y) (hb : 0 ≤ o ∧ 0 ≤ x ∧ 0 ≤ y ∧ 0 ≤ cy)
    (hv : v32 O + 4294967296 ^ (i + k) * cy.toNat = T + 4294967296 ^ i * (x.toNat * v32 (Y.take k))) :
    v32 (O.set (i + k) P) + 4294967296 ^ (i + (k + 1)) * C.toNat = T + 4294967296 ^ i * (x.toNat * v32 (Y.take (k + 1))) := by
 have h1 := v32_set O (i + k) hl P
 rw [ho] at h1
 rw [v32_take_succ, hy, show i + (k + 1) = (i + k) + 1 by omega, Nat.pow_succ, Nat.mul_add x.toNat, Nat.mul_add (4294967296 ^ i)]
 have e1 : 4294967296 ^ i * (x.toNat * (4294967296 ^ k * y.toNat)) = 4294967296 ^ (i + k) * (x.toNat * y.toNat) := by
  rw [Nat.pow_add, ← Nat.mul_assoc x.toNat, Nat.mul_comm x.toNat (4294967296 ^ k), Nat.mul_assoc (4294967296 ^ k), Nat.mul_assoc]
 rw [e1]
 generalize 4294967296 ^ (i + k) = B at *
 generalize 4294967296 ^ i * (x.toNat * v32 (Y.take k)) = Z at *
 have e2 : (x * y).toNat = x.toNat * y.toNat := Int.toNat_mul hb.2.1 hb.2.2.1
 have b0 : 0 ≤ x * y := Int.mul_nonneg hb.2.1 hb.2.2.1
 have d : P.toNat + 4294967296 * C.toNat = o.toNat + x.toNat * y.toNat + cy.toNat := by
  rw [← e2]
  have q1 := R.p
  have q2 := R.c
  generalize x * y = m at *
  omega
 have e3 : B * P.toNat + B * 4294967296 * C.toNat = B * o.toNat + B * (x.toNat * y.toNat) + B * cy.toNat := by
  rw [Nat.mul_assoc, ← Nat.mul_add, d, Nat.mul_add, Nat.mul_add]
 omega
theorem mul_lt {X Y : List Int} (hX : H32 X) (hY : H32 Y) (i : Nat) {x : Int} (hx : X.getD i 0 = x) : v32 (X.take i) * v32 Y + 4294967296 ^ i * (x.toNat * v32 Y) < 4294967296 ^ (i + 1 + Y.length) := by
 have e : v32 (X.take i) * v32 Y + 4294967296 ^ i * (x.toNat * v32 Y) = v32 (X.take (i + 1)) * v32 Y := by
  rw [v32_take_succ, hx, Nat.add_mul, Nat.mul_assoc]
 rw [e, Nat.pow_add]
 have h1 : v32 (X.take (i + 1)) < 4294967296 ^ (i + 1) := Nat.lt_of_lt_of_le (v32_lt (hX.take _)) (Nat.pow_le_pow_right (by decide) (List.length_take_le _ _))
 have h2 := v32_lt hY
 exact Nat.mul_lt_mul'' h1 h2
theorem carry_dies {V T Z i k n c : Nat} (hv : V + 4294967296 ^ (i + k) * c = T + Z) (hlt : T + Z < 4294967296 ^ (i + 1 + n)) (hk : n < k) : c = 0 := by
 rcases Nat.eq_zero_or_pos c with h | h
 ·exact h
 ·have h1 : 4294967296 ^ (i + 1 + n) ≤ 4294967296 ^ (i + k) := Nat.pow_le_pow_right (by decide) (by omega)
  have h2 := Nat.mul_le_mul_left (4294967296 ^ (i + k)) h
  omega
end Go.Proofs.YtgjkgkgieeoalaaGreat
