/- Parts of the proof, joined: what each says stands at its head. -/
import Derived.Test.YtidjbiopneoeeaaGreatM38
import Derived.Test.YtidjbiopneoeeaaGreatM29
set_option linter.unusedVariables false
set_option linter.unusedSimpArgs false
/- The walk of the law PolyOne. The condition: the arguments read so. -/
namespace Go.Proofs.YtidjbiopneoeeaaGreat
open Go.RowKit

theorem OwnT.form {w : World} {b0 base : Nat} {v : Value} {l : List TermD} (h : OwnT w b0 base v l) (hl : 0 < l.length) : ∃ g c, v = .slice (some ⟨g, 0, none⟩) l.length c ∧ base ≤ g ∧ g < w.heap.size ∧ l.length ≤ c ∧ RPol w b0 (some ⟨g, 0, none⟩) l := by
  obtain ⟨A, c, rfl, hc, _, hr⟩ := h.reads
  obtain ⟨cs, h1, h2⟩ := h
  obtain ⟨g, cap, hv, hb, hg⟩ := World.ownsRow.form h1 hl
  injection hv with e1 e2 e3
  subst e1
  exact ⟨g, c, rfl, hb, hg, hc, hr⟩
theorem mod_at {x : Int} {n : Nat} (hx : 0 ≤ x) (hn : 0 < n) : ∃ k : Nat, x % (n : Int) = k ∧ k < n := by
  have h1 := Int.emod_nonneg x (show (n : Int) ≠ 0 by omega)
  have h2 := Int.emod_lt_of_pos x (show (0 : Int) < n by omega)
  exact ⟨(x % n).toNat, by omega, by omega⟩
theorem make_call {b0 : Nat} {o : Int} {P : List TermD} (hP : SmP o P) {M : Nat} {l : List TermD} (h : Splits M P l) (hM : M < 4611686018427387904) (hl : l.length ≤ 1000000) (W : World) (A : Option Addr) (c : Nat) (hb : b0 ≤ W.heap.size) (hr : RPol W b0 A l) (hc : l.length ≤ c) :
    Calls Tryz.prog 30 #[.int .i64 o, .slice A l.length c] W fun e w' => ∃ A' c', e = .returned (.tuple #[.slice A' P.length c', .int .i64 0]) ∧ P.length ≤ c' ∧ RPol w' b0 A' P ∧ Below W.heap.size W w' := by
  have := poly_Make b0 o A c l W hb hr hc ⟨hl, fun s hs => by
    obtain ⟨n, e⟩ := h.ints.int s hs
    have h1 := Nat.le_trans (mass_mem hs) h.ints.mass
    rw [e] at h1 ⊢
    exact ofD_short n (by rw [val_ofD] at h1; omega)⟩
  rwa [one_law hP h.ints hM h.lin] at this

set_option maxHeartbeats 8000000 in
set_option maxRecDepth 100000 in
theorem law_PolyOne (a0 : Int) (A B SA : Option Addr) (c d sc : Nat) (ns sw : List Int) (ms : List (Int × Int × Int)) (w : World) (h0 : 0 ≤ a0) (h1 : a0 ≤ 255) (h : RSm w A c B d ns ms) (hw : Rd w w.heap.size 1 SA sw.length (ints .u8 sw)) (hwb : ∀ x ∈ sw, 0 ≤ x ∧ x ≤ 255) (hwc : sw.length ≤ sc) (hwm : sc ≤ maxLen) :
    Calls Tryz.prog 5 #[.int .u8 a0, .agg #[.slice A ns.length c, .slice B ms.length d], .slice SA sw.length sc] w fun e w' => e = .returned (.bool true) ∧ Below w.heap.size w w' := by
  unfold maxLen at hwm
  have CS := Hd.mk law_shown
  by_cases h100 : 100 < sw.length
  · clear h hw hwb
    go_enter Tryz.func5, Tryz.ntmps5
    go_upto_region 1 with (fail)
    refine wp_gen (fun W => Bo1 w.heap.size w.heap.size w W 57 #[.slice A ns.length c, .slice B ms.length d]) (Bo1.mk1 w _ _) ?_
    intro W BX
    go_wp2_with fail
    refine (CS.out _).mono ?_
    rintro e w1 ⟨rfl, hb⟩
    have BX1 := Hd.mk (BX.out.up hb)
    clear hb
    go_wp2_with fail
    go_ret
    exact ⟨rfl, BX1.out.below⟩
  have ho := oOk_mod h0
  obtain ⟨o, rO⟩ : ∃ o, a0 % 3 = o := ⟨_, rfl⟩
  rw [rO] at ho
  obtain ⟨P, hP, hl, CM⟩ := made_call ho h
  have SH := Hd.mk hP.short
  have CP := Hd.mk CM
  have HW := Hd.mk (And.intro hw hwb)
  have CMk := Hd.mk (fun {M : Nat} {l : List TermD} => make_call (b0 := w.heap.size) hP (M := M) (l := l))
  have CMay := Hd.mk (fun W A c hr hc => poly_May w.heap.size o A c P W hr hc hP.short)
  rw [hP.pol.may] at CMay
  have HI := Hd.mk (show Splits 1280 P P from ⟨hP.pol.ints, fun f => rfl⟩)
  clear h hw hwb CM ho hP
  go_enter Tryz.func5, Tryz.ntmps5
  go_upto_region 1 with (fail)
  refine wp_gen (fun W => Bo1 w.heap.size w.heap.size w W 57 #[.slice A ns.length c, .slice B ms.length d]) (Bo1.mk1 w _ _) ?_
  intro W BX
  go_wp2_with fail
  refine (CS.out _).mono ?_
  rintro e w1 ⟨rfl, hb⟩
  have BX1 := Hd.mk (BX.out.up hb)
  clear hb CS
  obtain ⟨q0, q1⟩ := BX1.out.k1.two'
  go_wp2_with fail
  clear q0 q1
  refine (CP.out _ BX1.out.below).mono ?_
  rintro e w2 ⟨A2, c2, rfl, hc2, hr, hb⟩
  have BX2 := Hd.mk (BX1.out.up hb)
  have HP2 := Hd.mk hr
  clear hb hr CP BX BX1
  have HO2 := Hd.mk (ownT_lit w2 w.heap.size w2.heap.size (Nat.le_refl _))
  go_wp2_with (at_builtin; refine wpList_append_T (w0 := w2) (b0 := w.heap.size) (base := w2.heap.size) (B := w2.heap.size) rfl _ _ _ _ rfl Tryz.slTerms Tryz.slPoly rfl rfl rfl HO2.out (HP2.out.up (below1 _ _)) BX2.out.below.size (by simp; omega) (below1 w2 _) (Nat.le_refl _) (below1 w2 _).size ?_)
  intro v' w3 AP
  have HB3 := Hd.mk AP.below
  have HO3 := Hd.mk AP.own
  rw [List.nil_append] at HO3
  clear AP HO2
  go_wp2_with fail
  go_loopw [9, 10] (fun v9 v10 wr => ∃ (i : Nat) (acc : List TermD), v10 = .int .i64 i ∧ i ≤ sw.length ∧ acc.length ≤ 10 + 2 * i ∧ Hd (Splits (1280 + 510 * i) P acc) ∧ Hd (OwnT wr w.heap.size w2.heap.size v9 acc) ∧ Hd (Below w2.heap.size w2 wr)) (fun _ v _ => sw.length - (intOf v).toNat)
  case atStart => exact ⟨0, P, rfl, by omega, by omega, HI, HO3, HB3⟩
  case round =>
    clear HO3 HB3
    obtain ⟨i, acc, rfl, hi, hal, HA, HO, HB⟩ := hrel
    by_cases hx : i < sw.length ∧ 0 < acc.length
    · obtain ⟨hlt, hpos⟩ := hx
      have i1 : (i : Int) < sw.length := by omega
      have i2 : (0 : Int) < acc.length := by omega
      obtain ⟨g, cv, rfl, hbg, hgl, hcv, hra⟩ := HO.out.form hpos
      obtain ⟨sa, eS, hsb, hcs⟩ := ((HW.out.1.below BX2.out.below).below (HB.out.mono BX2.out.below.size)).2 (by omega)
      have qs := hcs i (.int .u8 (sw.getD i 0)) (ints_get _ _ _ hlt)
      have hxb := HW.out.2 (sw.getD i 0) (by rw [getD_at hlt]; exact List.getElem_mem hlt)
      obtain ⟨x, hxe⟩ : ∃ x, sw.getD i 0 = x := ⟨_, rfl⟩
      rw [hxe] at qs hxb
      obtain ⟨x0, x1⟩ := hxb
      obtain ⟨k, rK, hk⟩ := mod_at x0 hpos
      have k1 : (k : Int) < acc.length := by omega
      have k0 : (0 : Int) ≤ k := by omega
      subst eS
      have HXE := Hd.mk hxe
      clear hxe hcs hsb
      go_wp2_with fail
      have HRA := Hd.mk hra
      obtain ⟨ad0, B1, d1, B2, d2, s, hA0, hab0, hs0, hrs, p0, p1, p2, p3, p4, p5, p6⟩ := hra.get hpos
      injection hA0 with hA0
      subst hA0
      rw [add_win, Nat.zero_add] at p0 p1 p2 p3 p4 p5 p6
      simp only [Nat.zero_mul, Nat.zero_add] at p0 p1 p2 p3 p4 p5 p6
      have fz := fun j => World.ownsRow.frozenAt HO.out.choose_spec.1 j
      have HS0 := Hd.mk hs0.out
      by_cases hk0 : k = 0
      · subst hk0
        have rK : x % (acc.length : Int) = 0 := rK
        rw [rK]
        clear rK hra hab0 hs0
        go_region
        clear p0 p1 p2 p3 p4 p5 p6 fz
        go_wp2_with fail
        refine wp_gen (fun W => OwnT W w.heap.size w2.heap.size (.slice (some ⟨g, 0, none⟩) acc.length cv) (swapT acc 0 s s) ∧ Below w2.heap.size w2 W) (swap_own (k := 0) HO.out rfl BX2.out.below.size hbg HB.out hpos hk hrs.out hrs.out) ?_
        intro W hW
        have HO4 := Hd.mk hW.out.1
        have HB4 := Hd.mk hW.out.2
        clear hW
        obtain ⟨L, hL⟩ : ∃ L, swapT acc 0 s s = L := ⟨_, rfl⟩
        rw [hL] at HO4
        have HSp := Hd.mk (HA.out.go HS0.out HS0.out (List.mem_of_getElem? HS0.out) ⟨x0, x1⟩)
        have hLl : L.length = acc.length := by rw [← hL]; exact swapT_len
        have HL0 : Hd (L[0]? = some s) := ⟨by rw [← hL]; exact swapT_zero hpos (fun _ => rfl)⟩
        rw [hL] at HSp
        clear hL
        obtain ⟨A5, c5, hv5, _, _, hr5⟩ := HO4.out.reads
        injection hv5 with e1 e2 e3
        subst e1
        obtain ⟨ad5, C1_, f1_, C2_, f2_, t5, hA5, hab5, ht5, hrt5, u0, u1, u2, u3, u4, u5, u6⟩ := hr5.get (j := 0) (by rw [hLl]; exact hpos)
        injection hA5 with hA5
        subst hA5
        have et5 : t5 = s := by have := ht5.out; rw [HL0.out] at this; injection this with this; exact this.symm
        subst et5
        rw [add_win, Nat.zero_add] at u3 u4 u5 u6
        simp only [Nat.zero_mul, Nat.zero_add] at u3 u4 u5 u6
        obtain ⟨sb, eS, hsb, hcs⟩ := ((HW.out.1.below BX2.out.below).below (HB4.out.mono BX2.out.below.size)).2 (by omega)
        injection eS with eS
        subst eS
        have q5 := hcs i (.int .u8 (sw.getD i 0)) (ints_get _ _ _ hlt)
        rw [HXE.out] at q5
        have hsb2 : (sa.add i).block < w2.heap.size := by rw [add_block]; exact Nat.lt_of_lt_of_le hsb BX2.out.below.size
        have vx : IntKind.i64.wrap x = x := by rw [IntKind.wrap_i64]; omega
        have hb5 : w.heap.size ≤ W.heap.size := Nat.le_trans BX2.out.below.size HB4.out.size
        have C1 : Hd (∀ W', Hd (Below W.heap.size W W') → Calls Tryz.prog 29 #[.int .i64 (IntKind.i64.wrap x), .agg #[.int .i64 t5.m.x0, .int .i64 t5.m.x1, .int .i64 t5.m.x2, .int .i64 t5.m.x3]] W' fun e w' => ∃ A c B d, e = .returned (.agg (TermD.v ⟨ofD x, t5.m⟩ A c B d)) ∧ RTerm w' w.heap.size (.agg (TermD.v ⟨ofD x, t5.m⟩ A c B d)) ⟨ofD x, t5.m⟩ ∧ Below W'.heap.size W' w') := ⟨by
          rw [vx]
          exact fun W' hB => law_one w.heap.size x t5.m W' (Nat.le_trans hb5 hB.out.size) (by omega) (by omega)⟩
        have C2 : Hd (∀ W', Hd (Below W.heap.size W W') → Calls Tryz.prog 29 #[.int .i64 (IntKind.i64.wrap (-IntKind.i64.wrap x)), .agg #[.int .i64 t5.m.x0, .int .i64 t5.m.x1, .int .i64 t5.m.x2, .int .i64 t5.m.x3]] W' fun e w' => ∃ A c B d, e = .returned (.agg (TermD.v ⟨ofD (-x), t5.m⟩ A c B d)) ∧ RTerm w' w.heap.size (.agg (TermD.v ⟨ofD (-x), t5.m⟩ A c B d)) ⟨ofD (-x), t5.m⟩ ∧ Below W'.heap.size W' w') := ⟨by
          rw [vx, show IntKind.i64.wrap (-x) = -x by rw [IntKind.wrap_i64]; omega]
          exact fun W' hB => law_one w.heap.size (-x) t5.m W' (Nat.le_trans hb5 hB.out.size) (by omega) (by omega)⟩
        simp only [TermD.v] at C1 C2
        generalize ofD x = X at C1 HSp
        generalize ofD (-x) = Y at C2 HSp
        have h7 : 7 ≤ L.length * 7 := by omega
        have SO1 := Hd.mk (fun w' (hB : Below W.heap.size W w') => And.intro (Hd.mk (hB.mono HB4.out.size)) (And.intro (cell_up q5 hB) (And.intro (cell_up u3 hB) (And.intro (cell_up u4 hB) (And.intro (cell_up u5 hB) (cell_up u6 hB))))))
        have SO2 := Hd.mk (fun w' (hB : Below w2.heap.size W w') (hk : ∀ j u, j < L.length * 7 → W.cell? ⟨g, j, none⟩ = some u → w'.cell? ⟨g, j, none⟩ = some u) => And.intro (Hd.mk hB) (And.intro ((hB.cell hsb2).trans q5) (And.intro (hk 3 _ (by omega) u3) (And.intro (hk 4 _ (by omega) u4) (And.intro (hk 5 _ (by omega) u5) (hk 6 _ (by omega) u6))))))
        have HZ4 : Hd (w2.heap.size ≤ W.heap.size) := ⟨HB4.out.size⟩
        have HLl := Hd.mk hLl
        clear u0 u1 u2 hab5 ht5 hrt5 hr5 hsb hsb2 hcs vx hb5 h7 hLl e2 e3
        go_wp2_with fail
        go_region_held3 (fun w' => Hd (Below w2.heap.size W w') ∧ w'.cell? (sa.add i) = some (.int .u8 x) ∧ w'.cell? ⟨g, 3, none⟩ = some (.int .i64 t5.m.x0) ∧ w'.cell? ⟨g, 4, none⟩ = some (.int .i64 t5.m.x1) ∧ w'.cell? ⟨g, 5, none⟩ = some (.int .i64 t5.m.x2) ∧ w'.cell? ⟨g, 6, none⟩ = some (.int .i64 t5.m.x3))
          (first
            | with_reducible exact SO2.out _ AP.below KP2
            | with_reducible exact SO1.out _ HB6.out
            | with_reducible exact SO1.out _ HB6a.out
            | with_reducible exact SO1.out _ HB5.out
            | with_reducible exact SO1.out _ (Below.refl _ _)
            | with_reducible exact SO1.out _ (Below.refl _ _).drew
            | fail)
          (first
            | (go_at_call 29; with_reducible refine (C1.out W.drew ⟨(Below.refl _ _).drew⟩).mono ?_; rintro e w5 ⟨TA, tc, TB, td, rfl, ht, hb⟩
               have HB5 : Hd (Below W.heap.size W w5) := ⟨(Below.refl W.heap.size W).drew.trans hb⟩
               have HT5 := Hd.mk ht)
            | (go_at_call 29; with_reducible refine (C2.out w5 HB5).mono ?_; rintro e w6 ⟨UA, uc, UB, ud, rfl, hu, hb2⟩
               have HB6 : Hd (Below W.heap.size W w6) := ⟨goes HB5.out hb2⟩
               have HB6a : Hd (Below W.heap.size W (w6.alloc (Obj.cells #[.bool X.neg, .slice TA X.num.length tc, .slice TB X.den.length td, .int .i64 t5.m.x0, .int .i64 t5.m.x1, .int .i64 t5.m.x2, .int .i64 t5.m.x3, .bool Y.neg, .slice UA Y.num.length uc, .slice UB Y.den.length ud, .int .i64 t5.m.x0, .int .i64 t5.m.x1, .int .i64 t5.m.x2, .int .i64 t5.m.x3] 67))) := ⟨HB6.out.alloc HB6.out.size _⟩
               have HT6 : Hd (RPol (w6.alloc (Obj.cells #[.bool X.neg, .slice TA X.num.length tc, .slice TB X.den.length td, .int .i64 t5.m.x0, .int .i64 t5.m.x1, .int .i64 t5.m.x2, .int .i64 t5.m.x3, .bool Y.neg, .slice UA Y.num.length uc, .slice UB Y.den.length ud, .int .i64 t5.m.x0, .int .i64 t5.m.x1, .int .i64 t5.m.x2, .int .i64 t5.m.x3] 67)) w.heap.size (some ⟨w6.heap.size, 0, none⟩) [⟨X, t5.m⟩, ⟨Y, t5.m⟩]) := ⟨rpol_bk2 (t := 67) (s := ⟨X, t5.m⟩) (s' := ⟨Y, t5.m⟩) (A := TA) (B := TB) (c := tc) (d := td) (A' := UA) (B' := UB) (c' := uc) (d' := ud) (Bk.new_ _ _ _) ((HT5.out.up hb2).up (below1 _ _)) (hu.up (below1 _ _))⟩
               have XL : Hd (L.length + ([⟨X, t5.m⟩, ⟨Y, t5.m⟩] : List TermD).length ≤ 1000000) := ⟨by have := HLl.out; simp; omega⟩)
            | (refine step_append_TK (w0 := W) (us := [⟨X, t5.m⟩, ⟨Y, t5.m⟩]) (B := w2.heap.size) rfl _ _ 24 rfl Tryz.slTerms rfl rfl rfl (Nat.succ_pos _) HLl.out.symm (HO4.out.up HB6a.out) HT6.out BX2.out.below.size XL.out (HB6a.out.mono HZ4.out) (Nat.le_refl _) (Nat.le_trans HZ4.out HB6a.out.size) ?_; intro v' w8 AP KP
               have KP2 : ∀ j u, j < L.length * 7 → W.cell? ⟨g, j, none⟩ = some u → w8.cell? ⟨g, j, none⟩ = some u := fun j u hj hu => KP j u hj (cell_up hu HB6a.out)))
        all_goals
          have HAP := Hd.mk AP.own
          have HB8 := Hd.mk (HB4.out.trans AP.below)
          have hl2 : (L ++ ([⟨X, t5.m⟩, ⟨Y, t5.m⟩] : List TermD)).length ≤ 10 + 2 * (i + 1) := by rw [List.length_append, HLl.out]; simp; omega
          have HSq : Hd (Splits (1280 + 510 * (i + 1)) P (L ++ [⟨X, t5.m⟩, ⟨Y, t5.m⟩])) := ⟨by rw [show 1280 + 510 * (i + 1) = 1280 + 510 * i + 510 by omega]; exact HSp.out⟩
          clear AP KP KP2
          go_wp2_with fail
          go_roundw
          case measure => first | (simp [intOf]; done) | (simp [intOf]; omega)
          case rel => exact ⟨i + 1, _, by go_num, by omega, hl2, HSq, HAP, HB8⟩
      · rw [rK]
        clear rK
        obtain ⟨adk, B3, d3, B4, d4, t, hAk, habk, htk, hrt, r0, r1, r2, r3, r4, r5, r6⟩ := hra.get hk
        injection hAk with hAk
        subst hAk
        rw [add_win, Nat.zero_add] at r0 r1 r2 r3 r4 r5 r6
        have HTK := Hd.mk htk.out
        clear hra hab0 habk htk hs0
        have n0 : ¬ k * 7 = 0 := by omega
        have n1 : ¬ k * 7 = 1 := by omega
        have n2 : ¬ k * 7 = 2 := by omega
        have n3 : ¬ k * 7 = 3 := by omega
        have n4 : ¬ k * 7 = 4 := by omega
        have n5 : ¬ k * 7 = 5 := by omega
        have n6 : ¬ k * 7 = 6 := by omega
        have HK := Hd.mk hk
        go_region
        clear n0 n1 n2 n3 n4 n5 n6 p0 p1 p2 p3 p4 p5 p6 r0 r1 r2 r3 r4 r5 r6 fz
        go_wp2_with fail
        refine wp_gen (fun W => OwnT W w.heap.size w2.heap.size (.slice (some ⟨g, 0, none⟩) acc.length cv) (swapT acc k s t) ∧ Below w2.heap.size w2 W) (swap_own (k := k) HO.out rfl BX2.out.below.size hbg HB.out hpos HK.out hrs.out hrt.out) ?_
        intro W hW
        have HO4 := Hd.mk hW.out.1
        have HB4 := Hd.mk hW.out.2
        clear hW
        obtain ⟨L, hL⟩ : ∃ L, swapT acc k s t = L := ⟨_, rfl⟩
        rw [hL] at HO4
        have HSp := Hd.mk (HA.out.go HS0.out HTK.out (List.mem_of_getElem? HTK.out) ⟨x0, x1⟩)
        have hLl : L.length = acc.length := by rw [← hL]; exact swapT_len
        have HL0 : Hd (L[0]? = some t) := ⟨by rw [← hL]; exact swapT_zero hpos (fun e => absurd e hk0)⟩
        rw [hL] at HSp
        clear hL
        obtain ⟨A5, c5, hv5, _, _, hr5⟩ := HO4.out.reads
        injection hv5 with e1 e2 e3
        subst e1
        obtain ⟨ad5, C1_, f1_, C2_, f2_, t5, hA5, hab5, ht5, hrt5, u0, u1, u2, u3, u4, u5, u6⟩ := hr5.get (j := 0) (by rw [hLl]; exact hpos)
        injection hA5 with hA5
        subst hA5
        have et5 : t5 = t := by have := ht5.out; rw [HL0.out] at this; injection this with this; exact this.symm
        subst et5
        rw [add_win, Nat.zero_add] at u3 u4 u5 u6
        simp only [Nat.zero_mul, Nat.zero_add] at u3 u4 u5 u6
        obtain ⟨sb, eS, hsb, hcs⟩ := ((HW.out.1.below BX2.out.below).below (HB4.out.mono BX2.out.below.size)).2 (by omega)
        injection eS with eS
        subst eS
        have q5 := hcs i (.int .u8 (sw.getD i 0)) (ints_get _ _ _ hlt)
        rw [HXE.out] at q5
        have hsb2 : (sa.add i).block < w2.heap.size := by rw [add_block]; exact Nat.lt_of_lt_of_le hsb BX2.out.below.size
        have vx : IntKind.i64.wrap x = x := by rw [IntKind.wrap_i64]; omega
        have hb5 : w.heap.size ≤ W.heap.size := Nat.le_trans BX2.out.below.size HB4.out.size
        have C1 : Hd (∀ W', Hd (Below W.heap.size W W') → Calls Tryz.prog 29 #[.int .i64 (IntKind.i64.wrap x), .agg #[.int .i64 t5.m.x0, .int .i64 t5.m.x1, .int .i64 t5.m.x2, .int .i64 t5.m.x3]] W' fun e w' => ∃ A c B d, e = .returned (.agg (TermD.v ⟨ofD x, t5.m⟩ A c B d)) ∧ RTerm w' w.heap.size (.agg (TermD.v ⟨ofD x, t5.m⟩ A c B d)) ⟨ofD x, t5.m⟩ ∧ Below W'.heap.size W' w') := ⟨by
          rw [vx]
          exact fun W' hB => law_one w.heap.size x t5.m W' (Nat.le_trans hb5 hB.out.size) (by omega) (by omega)⟩
        have C2 : Hd (∀ W', Hd (Below W.heap.size W W') → Calls Tryz.prog 29 #[.int .i64 (IntKind.i64.wrap (-IntKind.i64.wrap x)), .agg #[.int .i64 t5.m.x0, .int .i64 t5.m.x1, .int .i64 t5.m.x2, .int .i64 t5.m.x3]] W' fun e w' => ∃ A c B d, e = .returned (.agg (TermD.v ⟨ofD (-x), t5.m⟩ A c B d)) ∧ RTerm w' w.heap.size (.agg (TermD.v ⟨ofD (-x), t5.m⟩ A c B d)) ⟨ofD (-x), t5.m⟩ ∧ Below W'.heap.size W' w') := ⟨by
          rw [vx, show IntKind.i64.wrap (-x) = -x by rw [IntKind.wrap_i64]; omega]
          exact fun W' hB => law_one w.heap.size (-x) t5.m W' (Nat.le_trans hb5 hB.out.size) (by omega) (by omega)⟩
        simp only [TermD.v] at C1 C2
        generalize ofD x = X at C1 HSp
        generalize ofD (-x) = Y at C2 HSp
        have h7 : 7 ≤ L.length * 7 := by omega
        have SO1 := Hd.mk (fun w' (hB : Below W.heap.size W w') => And.intro (Hd.mk (hB.mono HB4.out.size)) (And.intro (cell_up q5 hB) (And.intro (cell_up u3 hB) (And.intro (cell_up u4 hB) (And.intro (cell_up u5 hB) (cell_up u6 hB))))))
        have SO2 := Hd.mk (fun w' (hB : Below w2.heap.size W w') (hk : ∀ j u, j < L.length * 7 → W.cell? ⟨g, j, none⟩ = some u → w'.cell? ⟨g, j, none⟩ = some u) => And.intro (Hd.mk hB) (And.intro ((hB.cell hsb2).trans q5) (And.intro (hk 3 _ (by omega) u3) (And.intro (hk 4 _ (by omega) u4) (And.intro (hk 5 _ (by omega) u5) (hk 6 _ (by omega) u6))))))
        have HZ4 : Hd (w2.heap.size ≤ W.heap.size) := ⟨HB4.out.size⟩
        have HLl := Hd.mk hLl
        clear u0 u1 u2 hab5 ht5 hrt5 hr5 hsb hsb2 hcs vx hb5 h7 hLl e2 e3
        go_wp2_with fail
        go_region_held3 (fun w' => Hd (Below w2.heap.size W w') ∧ w'.cell? (sa.add i) = some (.int .u8 x) ∧ w'.cell? ⟨g, 3, none⟩ = some (.int .i64 t5.m.x0) ∧ w'.cell? ⟨g, 4, none⟩ = some (.int .i64 t5.m.x1) ∧ w'.cell? ⟨g, 5, none⟩ = some (.int .i64 t5.m.x2) ∧ w'.cell? ⟨g, 6, none⟩ = some (.int .i64 t5.m.x3))
          (first
            | with_reducible exact SO2.out _ AP.below KP2
            | with_reducible exact SO1.out _ HB6.out
            | with_reducible exact SO1.out _ HB6a.out
            | with_reducible exact SO1.out _ HB5.out
            | with_reducible exact SO1.out _ (Below.refl _ _)
            | with_reducible exact SO1.out _ (Below.refl _ _).drew
            | fail)
          (first
            | (go_at_call 29; with_reducible refine (C1.out W.drew ⟨(Below.refl _ _).drew⟩).mono ?_; rintro e w5 ⟨TA, tc, TB, td, rfl, ht, hb⟩
               have HB5 : Hd (Below W.heap.size W w5) := ⟨(Below.refl W.heap.size W).drew.trans hb⟩
               have HT5 := Hd.mk ht)
            | (go_at_call 29; with_reducible refine (C2.out w5 HB5).mono ?_; rintro e w6 ⟨UA, uc, UB, ud, rfl, hu, hb2⟩
               have HB6 : Hd (Below W.heap.size W w6) := ⟨goes HB5.out hb2⟩
               have HB6a : Hd (Below W.heap.size W (w6.alloc (Obj.cells #[.bool X.neg, .slice TA X.num.length tc, .slice TB X.den.length td, .int .i64 t5.m.x0, .int .i64 t5.m.x1, .int .i64 t5.m.x2, .int .i64 t5.m.x3, .bool Y.neg, .slice UA Y.num.length uc, .slice UB Y.den.length ud, .int .i64 t5.m.x0, .int .i64 t5.m.x1, .int .i64 t5.m.x2, .int .i64 t5.m.x3] 67))) := ⟨HB6.out.alloc HB6.out.size _⟩
               have HT6 : Hd (RPol (w6.alloc (Obj.cells #[.bool X.neg, .slice TA X.num.length tc, .slice TB X.den.length td, .int .i64 t5.m.x0, .int .i64 t5.m.x1, .int .i64 t5.m.x2, .int .i64 t5.m.x3, .bool Y.neg, .slice UA Y.num.length uc, .slice UB Y.den.length ud, .int .i64 t5.m.x0, .int .i64 t5.m.x1, .int .i64 t5.m.x2, .int .i64 t5.m.x3] 67)) w.heap.size (some ⟨w6.heap.size, 0, none⟩) [⟨X, t5.m⟩, ⟨Y, t5.m⟩]) := ⟨rpol_bk2 (t := 67) (s := ⟨X, t5.m⟩) (s' := ⟨Y, t5.m⟩) (A := TA) (B := TB) (c := tc) (d := td) (A' := UA) (B' := UB) (c' := uc) (d' := ud) (Bk.new_ _ _ _) ((HT5.out.up hb2).up (below1 _ _)) (hu.up (below1 _ _))⟩
               have XL : Hd (L.length + ([⟨X, t5.m⟩, ⟨Y, t5.m⟩] : List TermD).length ≤ 1000000) := ⟨by have := HLl.out; simp; omega⟩)
            | (refine step_append_TK (w0 := W) (us := [⟨X, t5.m⟩, ⟨Y, t5.m⟩]) (B := w2.heap.size) rfl _ _ 24 rfl Tryz.slTerms rfl rfl rfl (Nat.succ_pos _) HLl.out.symm (HO4.out.up HB6a.out) HT6.out BX2.out.below.size XL.out (HB6a.out.mono HZ4.out) (Nat.le_refl _) (Nat.le_trans HZ4.out HB6a.out.size) ?_; intro v' w8 AP KP
               have KP2 : ∀ j u, j < L.length * 7 → W.cell? ⟨g, j, none⟩ = some u → w8.cell? ⟨g, j, none⟩ = some u := fun j u hj hu => KP j u hj (cell_up hu HB6a.out)))
        all_goals
          have HAP := Hd.mk AP.own
          have HB8 := Hd.mk (HB4.out.trans AP.below)
          have hl2 : (L ++ ([⟨X, t5.m⟩, ⟨Y, t5.m⟩] : List TermD)).length ≤ 10 + 2 * (i + 1) := by rw [List.length_append, HLl.out]; simp; omega
          have HSq : Hd (Splits (1280 + 510 * (i + 1)) P (L ++ [⟨X, t5.m⟩, ⟨Y, t5.m⟩])) := ⟨by rw [show 1280 + 510 * (i + 1) = 1280 + 510 * i + 510 by omega]; exact HSp.out⟩
          clear AP KP KP2
          go_wp2_with fail
          go_roundw
          case measure => first | (simp [intOf]; done) | (simp [intOf]; omega)
          case rel => exact ⟨i + 1, _, by go_num, by omega, hl2, HSq, HAP, HB8⟩
    · obtain ⟨A4, c4, rfl, hc4, _, hr4⟩ := HO.out.reads
      have CMk4 := Hd.mk (CMk.out HA.out (by omega) (by omega) wr A4 c4 (Nat.le_trans BX2.out.below.size HB.out.size) hr4 hc4)
      clear hr4
      by_cases hlt : i < sw.length
      · have i1 : (i : Int) < sw.length := by omega
        have i2 : ¬ (0 : Int) < acc.length := by omega
        go_wp2_with fail
        refine CMk4.out.mono ?_
        rintro e w6 ⟨A6, c6, rfl, hc6, hr6, hb6⟩
        have HB6 := Hd.mk (HB.out.trans (hb6.mono HB.out.size))
        have HR6 := Hd.mk hr6
        clear hb6 hr6
        go_wp2_with fail
        refine (same_call (HP2.out.up HB6.out) hc2 SH.out HR6.out hc6).mono ?_
        rintro e w7 ⟨rfl, hb7⟩
        have HB7 := Hd.mk (HB6.out.trans (hb7.mono HB6.out.size))
        have HR7 := Hd.mk (HR6.out.up hb7)
        clear hb7
        go_wp2_with fail
        refine (CMay.out _ _ _ HR7.out hc6).mono ?_
        rintro e w8 ⟨rfl, hb8⟩
        have HB8 := Hd.mk (goes BX2.out.below (HB7.out.trans (hb8.mono HB7.out.size)))
        clear hb8
        go_wp2_with fail
        go_ret
        exact ⟨by simp, HB8.out⟩
      · have i1 : ¬ (i : Int) < sw.length := by omega
        go_wp2_with fail
        refine CMk4.out.mono ?_
        rintro e w6 ⟨A6, c6, rfl, hc6, hr6, hb6⟩
        have HB6 := Hd.mk (HB.out.trans (hb6.mono HB.out.size))
        have HR6 := Hd.mk hr6
        clear hb6 hr6
        go_wp2_with fail
        refine (same_call (HP2.out.up HB6.out) hc2 SH.out HR6.out hc6).mono ?_
        rintro e w7 ⟨rfl, hb7⟩
        have HB7 := Hd.mk (HB6.out.trans (hb7.mono HB6.out.size))
        have HR7 := Hd.mk (HR6.out.up hb7)
        clear hb7
        go_wp2_with fail
        refine (CMay.out _ _ _ HR7.out hc6).mono ?_
        rintro e w8 ⟨rfl, hb8⟩
        have HB8 := Hd.mk (goes BX2.out.below (HB7.out.trans (hb8.mono HB7.out.size)))
        clear hb8
        go_wp2_with fail
        go_ret
        exact ⟨by simp, HB8.out⟩
end Go.Proofs.YtidjbiopneoeeaaGreat
