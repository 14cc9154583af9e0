/- Parts of the proof, joined: what each says stands at its head. -/
import Derived.Test.YtjanagclahkfdaaGreatM43
set_option linter.unusedVariables false
set_option linter.unusedSimpArgs false
set_option maxHeartbeats 24000000
set_option maxRecDepth 100000
namespace Go.Proofs.YtjanagclahkfdaaGreat
open Go.RowKit
theorem rsame_call' {b0 : Nat} {W : World} {v u : Value} {r : RatD} (h : RRat W b0 v r) (h' : RRat W b0 u r) (hs : r.short) :
    Calls Tryz.prog 28 #[v, u] W fun e w' => e = .returned (.bool true) ∧ Below W.heap.size W w' := by
 have := rrat_Same b0 v u r r W h h' hs hs
 rwa [sameR_iff.2 rfl] at this
theorem add_0 (p : Addr) : p.add 0 = p := by unfold Addr.add; simp
theorem law_DivideOne (a0 n0 : Int) (A B : Option Addr) (c d : Nat) (ns : List Int) (ms : List (Int × Int × Int)) (w : World) (h0 : 0 ≤ a0) (h1 : a0 ≤ 255) (hn0 : -128 ≤ n0) (hn1 : n0 ≤ 127) (h : RSm w A c B d ns ms) :
    Calls Tryz.prog 8 #[.int .u8 a0, .agg #[.slice A ns.length c, .slice B ms.length d], .int .i8 n0] w fun e w' => e = .returned (.bool true) ∧ Below w.heap.size w w' := by
 have ho := oOk_mod3 h0
 obtain ⟨o, rO⟩ : ∃ o, a0 % 3 = o := ⟨_, rfl⟩
 rw [rO] at ho
 obtain ⟨P, hP, CM⟩ := made12_call ho h
 have hsh := smP_short hP
 have CMade := Hd.mk CM
 have CS := Hd.mk law12_shown
 have SH := Hd.mk hsh
 have HP := Hd.mk hP
 have v0 : IntKind.i64.wrap n0 = n0 := by rw [IntKind.wrap_i64]; omega
 clear h CM hsh ho hP
 go_enter Tryz.func8, Tryz.ntmps8
 go_upto_region 1 with (fail)
 refine wp_gen (fun W => Bo1 w.heap.size w.heap.size w W 38 #[.slice A ns.length c, .slice B ms.length d]) (Bo1.mk1 w _ _) ?_
 intro W BX
 obtain ⟨q0, q1⟩ := BX.out.k1.two'
 go_wp2_with fail
 clear q0 q1
 refine (CMade.out _ BX.out.below).mono ?_
 rintro e w1 ⟨A1, c1, rfl, hc1, hr, hb⟩
 have HB1 := Hd.mk (BX.out.up hb).below
 have HR1 := Hd.mk hr
 clear hb hr BX CMade
 by_cases hz : n0 = 0
 ·have e1 : (n0 == 0) = true := by rw [hz]; rfl
  clear hz
  go_wp2_with fail
  refine (CS.out _).mono ?_
  rintro e w2 ⟨rfl, hb⟩
  have HB2 := Hd.mk (goes HB1.out hb)
  clear hb
  go_wp2_with fail
  go_ret
  exact ⟨rfl, HB2.out⟩
 have e1 : (n0 == 0) = false := by rw [beq_eq_false_iff_ne]; exact hz
 by_cases hl : P.length = 0
 ·have e2 : ((P.length : Int) == 0) = true := by rw [hl]; rfl
  clear hz hl
  go_wp2_with fail
  refine (CS.out _).mono ?_
  rintro e w2 ⟨rfl, hb⟩
  have HB2 := Hd.mk (goes HB1.out hb)
  clear hb
  go_wp2_with fail
  go_ret
  exact ⟨rfl, HB2.out⟩
 obtain ⟨Q, hq, hql⟩ := one_num HP.out hz (show n0.natAbs ≤ 1000 by omega)
 have hself : splitD o P [P] = (0, [[⟨ofD 1, zeroM⟩]], []) := by
  cases P with
  | nil => exact absurd rfl hl
  | cons t p => exact one_self HP.out
 have e2 : ((P.length : Int) == 0) = false := by rw [beq_eq_false_iff_ne]; omega
 have CO := Hd.mk (fun W hB => rrat_Of w.heap.size n0 W hB (by omega) (by omega))
 have HT : Hd (shortPs [[⟨ofD n0, zeroM⟩]]) := ⟨⟨by simp, fun p hp => by
  simp only [List.mem_singleton] at hp
  subst hp
  exact ⟨by simp, fun s hs => by simp only [List.mem_singleton] at hs; subst hs; exact ofD_short n0 (by omega)⟩⟩⟩
 have CO1 := Hd.mk (fun W hB => rrat_Of w.heap.size 1 W hB (by omega) (by omega))
 have HR1S := Hd.mk (ofD_short 1 (by decide))
 obtain ⟨R, hR⟩ : ∃ R, ofD n0 = R := ⟨_, rfl⟩
 obtain ⟨K, hK⟩ : ∃ K, ofD 1 = K := ⟨_, rfl⟩
 rw [hR] at hq CO HT
 rw [hK] at hself CO1 HR1S
 have HQ := Hd.mk hq
 have HSelf := Hd.mk hself
 have HQL := Hd.mk hql
 have HNS : Hd (shortPs [P]) := ⟨⟨by simp, fun p hp => by simp only [List.mem_singleton] at hp; subst hp; exact SH.out⟩⟩
 clear hq hself hR hK hz hl HP hql
 go_wp2_with fail
 refine (CS.out _).mono ?_
 rintro e w2 ⟨rfl, hb⟩
 have HB2 := Hd.mk (goes HB1.out hb)
 have HR2 := Hd.mk (HR1.out.up hb)
 clear hb HB1 HR1
 go_wp2_with fail
 refine (CO.out _ HB2.out.size).mono ?_
 rintro e w3 ⟨x, rfl, hx, hb⟩
 have HB3 := Hd.mk (goes HB2.out hb)
 have HR3 := Hd.mk (HR2.out.up hb)
 obtain ⟨TA, tc, TB, td, rfl, x1, x2, x3, x4⟩ := hx
 have T1 := Hd.mk (rpol_one (t := ⟨R, zeroM⟩) (rterm_of (⟨TA, tc, TB, td, rfl, x1, x2, x3, x4⟩ : RRat w3 w.heap.size _ R) zeroM) 53)
 simp only [zeroM] at T1
 clear hb HB2 HR2 CO x1 x2 x3 x4
 have HL1 : Hd (RPols ((w3.alloc (.cells #[.bool R.neg, .slice TA R.num.length tc, .slice TB R.den.length td, .int .i64 0, .int .i64 0, .int .i64 0, .int .i64 0] 53)).alloc (.cells #[.slice (some ⟨w3.heap.size, 0, none⟩) 1 1] 23)) w.heap.size (some ⟨w3.heap.size + 1, 0, none⟩) [[⟨R, zeroM⟩]]) :=
  ⟨rpols_bk1 (p := [⟨R, zeroM⟩]) (c := 1) (Bk.nw1 w3 _ _ _) (T1.out.up (below1 _ _)) (by simp)⟩
 have CD := Hd.mk (split_call SH.out HT.out HQ.out _ A1 (some ⟨w3.heap.size + 1, 0, none⟩) c1 1 (Nat.le_trans HB3.out.size (below2 _ _ _).size) (HR3.out.up (below2 _ (.cells #[.bool R.neg, .slice TA R.num.length tc, .slice TB R.den.length td, .int .i64 0, .int .i64 0, .int .i64 0, .int .i64 0] 53) (.cells #[.slice (some ⟨w3.heap.size, 0, none⟩) 1 1] 23))) hc1 HL1.out (by simp))
 simp only [List.length_cons, List.length_nil, Nat.zero_add] at CD
 clear T1 HL1
 go_wp2_with fail
 refine CD.out.mono ?_
 rintro e w5 ⟨Q5, q5, A5, c5, rfl, hq5, _, hrq, _, hb⟩
 have HB5 := Hd.mk (goes (goes HB3.out (below2 _ _ _)) hb)
 have HR5 := Hd.mk (HR3.out.up (goes (below2 _ _ _) hb))
 have HQ5 := Hd.mk hrq
 clear hb hrq CD HB3 HR3
 have CE := Hd.mk (split_call SH.out HNS.out HSelf.out (w5.alloc (.cells #[.slice A1 P.length c1] 23)) A1 (some ⟨w5.heap.size, 0, none⟩) c1 1 (Nat.le_trans HB5.out.size (below1 _ _).size) (HR5.out.up (below1 _ _)) hc1 (rpols_bk1 (p := P) (Bk.new_ _ _ _) (HR5.out.up (below1 _ _)) hc1) (by simp))
 simp only [List.length_cons, List.length_nil, Nat.zero_add] at CE
 go_wp2_with fail
 refine CE.out.mono ?_
 rintro e w6 ⟨Q6, q6, A6, c6, rfl, hq6, _, hrq, _, hb⟩
 have HB6 := Hd.mk (goes (goes HB5.out (below1 _ _)) hb)
 have HQ6 := Hd.mk (HQ5.out.up (goes (below1 _ _) hb))
 have HS6 := Hd.mk hrq
 clear hb hrq CE HB5 HR5 HQ5
 obtain ⟨ad, a1, e1', p1, rfl, _, hp1, hcell1, _, _⟩ := HQ6.out.get (show 0 < [Q].length by simp)
 obtain rfl : Q = p1 := by have := hp1.out; simpa using this
 obtain ⟨bd, a2, e2', p2, rfl, _, hp2, hcell2, hl2, hrp2⟩ := HS6.out.get (show 0 < [[(⟨K, zeroM⟩ : TermD)]].length by simp)
 obtain rfl : [⟨K, zeroM⟩] = p2 := by have := hp2.out; simpa using this
 obtain ⟨td2, B1, d1, B2, d2, t', rfl, _, ht, hrt, z0, z1, z2, z3, z4, z5, z6⟩ := hrp2.out.get (show 0 < [(⟨K, zeroM⟩ : TermD)].length by simp)
 obtain rfl : ⟨K, zeroM⟩ = t' := by have := ht.out; simpa using this
 simp only [List.length_cons, List.length_nil, Nat.zero_add] at hcell2
 rw [Nat.zero_mul, add_0] at z0 z1 z2 z3 z4 z5 z6
 rw [add_0] at hcell1 hcell2
 simp only [zeroM] at z0 z1 z2 z3 z4 z5 z6
 rw [HQL.out] at hcell1
 have HRK := Hd.mk hrt.out.rat
 clear hp1 hp2 ht hrt hrp2 HQ6 HS6
 have SO := Hd.mk (fun W (hB : Below w6.heap.size w6 W) => And.intro (Hd.mk hB) (And.intro (cell_up hcell1 hB) (And.intro (cell_up hcell2 hB) (And.intro (cell_up z0 hB) (And.intro (cell_up z1 hB) (And.intro (cell_up z2 hB) (And.intro (cell_up z3 hB) (And.intro (cell_up z4 hB) (And.intro (cell_up z5 hB) (cell_up z6 hB))))))))))
 have z7 : ((P.length : Int) == P.length) = true := by simp
 have EM := fun W => eq_mono zeroM zeroM W
 simp only [decide_true, MonD.v, zeroM] at EM
 go_wp2_with fail
 go_region_held3 (fun w' => Hd (Below w6.heap.size w6 w') ∧ w'.cell? ad = some (.slice a1 P.length e1') ∧ w'.cell? bd = some (.slice (some td2) 1 e2') ∧ w'.cell? td2 = some (.bool K.neg) ∧ w'.cell? ⟨td2.block, td2.off + 1, none⟩ = some (.slice B1 K.num.length d1) ∧ w'.cell? ⟨td2.block, td2.off + 2, none⟩ = some (.slice B2 K.den.length d2) ∧
     w'.cell? ⟨td2.block, td2.off + 3, none⟩ = some (.int .i64 0) ∧ w'.cell? ⟨td2.block, td2.off + 4, none⟩ = some (.int .i64 0) ∧ w'.cell? ⟨td2.block, td2.off + 5, none⟩ = some (.int .i64 0) ∧ w'.cell? ⟨td2.block, td2.off + 6, none⟩ = some (.int .i64 0))
  (first
   | with_reducible exact SO.out _ (Below.refl _ _)
   | with_reducible exact SO.out _ (Below.refl _ _).drew
   | with_reducible exact SO.out _ hB8
   | with_reducible exact SO.out _ hB7
   | fail)
  (first
   | (go_at_call 27; with_reducible refine (CO1.out w6.drew (Nat.le_trans HB6.out.size (Below.refl w6.heap.size w6).drew.size)).mono ?_; rintro e w7 ⟨x, rfl, hx, hb⟩
      have hB7 : Below w6.heap.size w6 w7 := (Below.refl w6.heap.size w6).drew.trans hb
      have HX7 := Hd.mk hx)
   | (go_at_call 28; with_reducible refine (rsame_call' (HRK.out.up hB7) HX7.out HR1S.out).mono ?_; rintro e w8 ⟨rfl, hb⟩
      have hB8 : Below w6.heap.size w6 w8 := goes hB7 hb)
   | fail)
 all_goals
  have HB9 := Hd.mk (goes HB6.out hB8)
  go_wp2_with fail
  go_ret
  exact ⟨by simp, HB9.out⟩
end Go.Proofs.YtjanagclahkfdaaGreat
