/- Parts of the proof, joined: each theorem says what it shows. -/
import Derived.Test.YtgjkgkgieeoalaaGreatC21
set_option linter.unusedVariables false
set_option linter.unusedSimpArgs false
set_option maxHeartbeats 24000000
set_option maxRecDepth 100000
namespace Go.Proofs.YtgjkgkgieeoalaaGreat
open Go.RowKit Go.Maps
theorem Tryz.slPoly : Tryz.prog.underlying 25 = some (.slice 68) := by kernel_rfl
theorem Tryz.infTerm : (Tryz.prog.info? 68).map (fun i => (i.zero, i.size, i.bytes)) = some (some (.agg #[.bool false, .slice none 0 0, .slice none 0 0, .int .i64 0, .int .i64 0, .int .i64 0, .int .i64 0]), 7, 88) := by kernel_rfl
def Fr (B : Nat) (A : Option Addr) : Prop := ∀ ad, A = some ad → B ≤ ad.block
theorem Fr.none (B : Nat) : Fr B none := fun _ h => by cases h
theorem Fr.le {B B' : Nat} {A : Option Addr} (h : Fr B A) (hb : B' ≤ B) : Fr B' A := fun ad e => Nat.le_trans hb (h ad e)
theorem poly_MakeF (b0 : Nat) (order : Int) (A : Option Addr) (c : Nat) (ts : List TermD) (w : World) (hb0 : b0 ≤ w.heap.size) (h : RPol w b0 A ts) (hc : ts.length ≤ c) (hs : shortP ts) :
    Calls Tryz.prog 177 #[.int .i64 order, .slice A ts.length c] w fun e w' => ∃ A' c', e = .returned (.tuple #[.slice A' (polMake order ts).2.length c', .int .i64 (polMake order ts).1]) ∧
     (polMake order ts).2.length ≤ c' ∧ RPol w' b0 A' (polMake order ts).2 ∧ Below w.heap.size w w' ∧ Fr w.heap.size A' := by
 have HP := Hd.mk h
 have HS := Hd.mk hs
 have HB0 := Hd.mk hb0
 have hl := hs.1
 clear h hs hb0
 have hmm := @run_makeMap Tryz.prog
 cases ho : ordered order
 ·have HE : Hd (polMake order ts = (1, [])) := ⟨by unfold polMake; rw [ho]; rfl⟩
  have CO := Hd.mk (fun W => poly_ordered order W)
  rw [ho] at CO
  clear ho
  go_enter Tryz.func177, Tryz.ntmps177
  go_wp2_with fail
  refine (CO.out _).mono ?_
  rintro e w' ⟨rfl, rfl⟩
  go_wp2_with fail
  go_ret2
  rw [HE.out]
  exact ⟨none, 0, rfl, Nat.le_refl _, RPol.nil _ _ _, (Below.refl _ _).alloc (Nat.le_refl _) _, Fr.none _⟩
 ·cases hodd : anyOdd ts
  ·have CO := Hd.mk (fun W => poly_ordered order W)
   rw [ho] at CO
   have CD := Hd.mk (fun W hW => contains_odd b0 A c ts W hW hc HS.out)
   rw [hodd] at CD
   have HO := Hd.mk ho
   have HD := Hd.mk hodd
   clear ho hodd
   go_enter Tryz.func177, Tryz.ntmps177
   go_wp2_with fail
   refine (CO.out _).mono ?_
   rintro e w' ⟨rfl, rfl⟩
   go_wp2_with fail
   refine (CD.out _ (HP.out.up ((Below.refl _ _).alloc (Nat.le_refl _) _))).mono ?_
   rintro e w2 ⟨rfl, hb2⟩
   have K2 := Hd.mk (((Below.refl w.heap.size w).alloc (Nat.le_refl _) (Obj.cells #[.int .i64 order] 3)).trans (hb2.mono (by simp)))
   have B2 := Hd.mk ((Bk.new_ w 3 #[.int .i64 order]).up hb2)
   clear hb2
   go_wp2_with fail
   go_loopw [27] (fun v wr => ∃ (i : Nat) (al : List TermD) (D : DataW Value), v = .int .i64 i ∧ i ≤ ts.length ∧ Hd (Mk b0 w2.heap.size w.heap.size order w wr i al D) ∧ Hd (putAll order [] ts = putAll order al (ts.drop i))) (fun v _ => ts.length - (intOf v).toNat)
   case atStart =>
    refine ⟨0, [], .map [], rfl, by omega, ⟨?_⟩, ⟨rfl⟩⟩
    have hbm : Below w2.heap.size w2 (w2.alloc (.map #[] 0)) := (Below.refl _ _).alloc (Nat.le_refl _) _
    exact ⟨K2.out.trans (hbm.mono K2.out.size), B2.out.up hbm, K2.out.size, Nat.le_refl _, Nat.ne_of_lt B2.out.lt, MapIs.made _ _, Sta.nil (ordered_ok.1 HO.out), (fun _ h => by cases h)⟩
   case round =>
    obtain ⟨i, al, D, rfl, hi, hk, hput⟩ := hrel
    have hgn : Hd (w.heap.size ≠ w2.heap.size) := ⟨hk.out.ne⟩
    obtain ⟨g, hgg⟩ : ∃ g, w2.heap.size = g := ⟨_, rfl⟩
    rw [hgg] at hk hgn ⊢
    by_cases hlt : i < ts.length
    ·obtain ⟨ad, B1, c1, B2, c2, t, rfl, hab, hti, hrt, q0, q1, q2, q3, q4, q5, q6⟩ := (HP.out.up hk.out.below).get hlt
     have i2 : (i : Int) < ts.length := by omega
     have i3 : (0 : Int) ≤ i := by omega
     have hri : right t = true := by
      have h1 := List.any_eq_false.1 HD.out t (List.mem_of_getElem? hti.out)
      simpa using h1
     have hmt : monMay t.m = true := by unfold right at hri; simp at hri; exact hri.2
     have HST := Hd.mk (HS.out.2 t (List.mem_of_getElem? hti.out))
     have HM := Hd.mk hmt
     clear hri hmt
     have HPUT : Hd (putAll order al (ts.drop i) = if (putD order al t).1 ≠ 0 then ((putD order al t).1, []) else putAll order (putD order al t).2 (ts.drop (i + 1))) := ⟨by
      have e1 : ts[i] = t := by have := hti.out; rw [List.getElem?_eq_getElem hlt] at this; injection this
      rw [List.drop_eq_getElem_cons hlt, e1]; rfl⟩
     clear hti
     go_upto_region 8 with (fail)
     refine wp_gen (fun W => Below wr.heap.size wr W ∧ Mk b0 g w.heap.size order w W i al D ∧ Bk W wr.heap.size 68 #[.bool t.c.neg, .slice B1 t.c.num.length c1, .slice B2 t.c.den.length c2, .int .i64 t.m.x0, .int .i64 t.m.x1, .int .i64 t.m.x2, .int .i64 t.m.x3]) ⟨(Below.refl _ _).alloc (Nat.le_refl _) _, hk.out.up ((Below.refl _ _).alloc (Nat.le_refl _) _), Bk.new_ _ _ _⟩ ?_
     intro W BX
     obtain ⟨⟨b0_, b1_, b2_⟩, b3_, b4_, b5_, b6_⟩ := BX.out.2.2.seven
     have HRR : Hd (RRat W b0 (.agg #[.bool t.c.neg, .slice B1 t.c.num.length c1, .slice B2 t.c.den.length c2]) t.c) := ⟨by
      have hr2 := hrt.out.up BX.out.1
      obtain ⟨x1, x2, x3, x4, e, y1, y2, y3, y4⟩ := hr2
      simp only [Value.agg.injEq, Array.mk.injEq, List.cons.injEq, Value.slice.injEq, true_and, and_true] at e
      obtain ⟨⟨rfl, rfl⟩, rfl, rfl⟩ := e
      exact ⟨_, _, _, _, rfl, y1, y2, y3, y4⟩⟩
     have hgt : Hd (w.heap.size ≤ wr.heap.size) := ⟨hk.out.below.size⟩
     obtain ⟨gt, hgt'⟩ : ∃ gt, wr.heap.size = gt := ⟨_, rfl⟩
     rw [hgt'] at b0_ b1_ b2_ b3_ b4_ b5_ b6_ BX hgt ⊢
     clear hgt' hrt q0 q1 q2 q3 q4 q5 q6 hab hk
     cases hh : hasM al t.m
     ·go_wp2_with (at_lookup; refine wpList_lookup_own_ok _ rfl _ _ 261 rfl 66 64 Tryz.keyed Tryz.mapT elR (Tryz.zRat _) (.held zRatV) [] rfl g i D rfl BX.out.2.1.map.own (mv t.m) (ml t.m) rfl (keyOf_mv HM.out) ?_)
      intro v ps hv
      have hD : Maps.has D (ml t.m) = false := (BX.out.2.1.map.hasM HM.out).trans hh
      rw [hD]
      have hv2 : v = .agg #[.bool false, .slice none 0 0, .slice none 0 0] := by
       rw [atKey_of_not_has hD] at hv
       unfold elR at hv
       injection hv with hv
       injection hv with hv _
       injection hv
      subst hv2
      clear hv hD
      have BX3 := Hd.mk (BX.out.2.1.up ((Below.refl _ _).alloc (Nat.le_refl _) (Obj.cells #[.bool false, .slice none 0 0, .slice none 0 0] 64)))
      have hnn : i < maxLen := by unfold maxLen; omega
      obtain ⟨⟨a0_, a1_, a2_⟩, a3_, a4_, a5_, a6_⟩ := (BX.out.2.2.al (Obj.cells #[.bool false, .slice none 0 0, .slice none 0 0] 64)).seven
      go_wp2_with (at_mapUpdate; refine wpList_mapUpdate_in _ rfl _ _ _ 261 rfl 66 64 Tryz.keyed Tryz.mapT elR g i D rfl BX3.out.map.own hnn (mv t.m) (.agg #[.bool t.c.neg, .slice B1 t.c.num.length c1, .slice B2 t.c.den.length c2]) (ml t.m) rfl rfl (keyOf_mv HM.out) (.held (.agg #[.bool t.c.neg, .slice B1 t.c.num.length c1, .slice B2 t.c.den.length c2])) [] rfl ?_)
      intro w4 hown4 hturn4
      have HPUT2 : Hd ((putD order al t).1 = 0 ∧ (putD order al t).2 = insD order t al) := ⟨by unfold putD; rw [hh]; exact ⟨rfl, rfl⟩⟩
      have K4 := Hd.mk (BX3.out.put HB0.out (bl := insD order t al) HM.out (HRR.out.up ((Below.refl _ _).alloc (Nat.le_refl _) _)) (fun s => by rw [mem_insD]; exact ⟨fun h => h.imp id fun h => ⟨h, hasM_not hh s h⟩, fun h => h.imp id And.left⟩) hown4 hturn4 (BX3.out.sta.ins HM.out (hasM_not hh)) HST.out)
      clear hown4 hturn4 hh
      go_wp2_with fail
      go_roundw
      case measure => first | (simp [intOf]; done) | (simp [intOf]; omega)
      case rel =>
       refine ⟨i + 1, _, _, by go_num, by omega, K4, ⟨?_⟩⟩
       rw [hput.out, HPUT.out, HPUT2.out.1, HPUT2.out.2]; rfl
     ·obtain ⟨p, hpm, hpe, hgm⟩ := getM_of hh
      obtain ⟨u, hu1, hu2⟩ := BX.out.2.1.map.val p hpm
      have hsp := BX.out.2.1.short p hpm
      rw [hpe] at hu1
      have HHH := Hd.mk hh
      go_wp2_with (at_lookup; refine wpList_lookup_own_ok _ rfl _ _ 261 rfl 66 64 Tryz.keyed Tryz.mapT elR (Tryz.zRat _) (.held zRatV) [] rfl g i D rfl BX.out.2.1.map.own (mv t.m) (ml t.m) rfl (keyOf_mv HM.out) ?_)
      intro v ps hv
      have hD : Maps.has D (ml t.m) = true := (BX.out.2.1.map.hasM HM.out).trans hh
      rw [hD]
      have hv2 : v = u := by
       try rw [hu1] at hv
       unfold elR at hv
       injection hv with hv
       injection hv with hv _
       injection hv
      subst hv2
      clear hv hD hu1 hh
      obtain ⟨S, hS⟩ : ∃ S, addD p.c t.c = S := ⟨_, rfl⟩
      have HSS := Hd.mk (show S.2.short by rw [← hS]; exact addD_short _ _)
      have HPD : Hd (putD order al t = if S.1 ≠ 0 then (S.1, []) else (0, setM al t.m S.2)) := ⟨by unfold putD; rw [if_pos HHH.out, hgm, hS]⟩
      have HU := Hd.mk hu2
      obtain ⟨pA, pc, pB, pd, rfl, _, _, _, _⟩ := hu2
      have hal : Hd (Below W.heap.size W (W.alloc (Obj.cells #[.bool p.c.neg, .slice pA p.c.num.length pc, .slice pB p.c.den.length pd] 64))) := ⟨(Below.refl _ _).alloc (Nat.le_refl _) _⟩
      have CA := Hd.mk (ratio_Add b0 _ _ p.c t.c _ (Nat.le_trans (Nat.le_trans HB0.out BX.out.2.1.below.size) hal.out.size) (HU.out.up hal.out) (HRR.out.up hal.out) hsp HST.out)
      rw [hS] at CA
      clear hS hgm hpe hpm hsp
      have BX3 := Hd.mk (BX.out.2.1.up hal.out)
      have T3 := Hd.mk (BX.out.2.2.up hal.out)
      have A3 := Hd.mk (Bk.new_ W 64 #[.bool p.c.neg, .slice pA p.c.num.length pc, .slice pB p.c.den.length pd])
      have hgA : Hd (w.heap.size ≤ W.heap.size ∧ gt ≠ W.heap.size ∧ w.heap.size ≠ W.heap.size) := ⟨BX.out.2.1.below.size, Nat.ne_of_lt BX.out.2.2.lt, Nat.ne_of_lt BX.out.2.1.box.lt⟩
      obtain ⟨⟨a0_, a1_, a2_⟩, a3_, a4_, a5_, a6_⟩ := T3.out.seven
      obtain ⟨d0_, d1_, d2_⟩ := A3.out.three
      go_wp2_with fail
      refine CA.out.mono ?_
      rintro e w5 ⟨x, rfl, hx, hb5⟩
      have BX5 := Hd.mk (BX3.out.up hb5)
      have T5 := Hd.mk (T3.out.up hb5)
      have A5 := Hd.mk (A3.out.up hb5)
      have HX5 := Hd.mk hx
      obtain ⟨xA, xc, xB, xd, rfl, _, _, _, _⟩ := hx
      obtain ⟨gA, hgA'⟩ : ∃ gA, W.heap.size = gA := ⟨_, rfl⟩
      rw [hgA'] at A5 hgA ⊢
      clear hgA' hb5 CA BX3 T3 A3 hal BX b0_ b1_ b2_ b3_ b4_ b5_ b6_ a0_ a1_ a2_ a3_ a4_ a5_ a6_ d0_ d1_ d2_ HU HRR
      obtain ⟨d0_, d1_, d2_⟩ := A5.out.three
      have fz := fun i => A5.out.froz i
      go_upto_region 12 with (fail)
      refine wp_gen (fun W6 => Mk b0 g w.heap.size order w W6 i al D ∧ Bk W6 gt 68 #[.bool t.c.neg, .slice B1 t.c.num.length c1, .slice B2 t.c.den.length c2, .int .i64 t.m.x0, .int .i64 t.m.x1, .int .i64 t.m.x2, .int .i64 t.m.x3] ∧ Bk W6 gA 64 #[.bool S.2.neg, .slice xA S.2.num.length xc, .slice xB S.2.den.length xd] ∧ RRat W6 b0 (.agg #[.bool S.2.neg, .slice xA S.2.num.length xc, .slice xB S.2.den.length xd]) S.2)
       ⟨BX5.out.set3 HB0.out A5.out hgA.out.1 hgA.out.2.2 _ _ _, ((T5.out.far hgA.out.2.1 _).far hgA.out.2.1 _).far hgA.out.2.1 _, A5.out.set3 _ _ _, HX5.out.set3 A5.out (Nat.le_trans HB0.out hgA.out.1) _ _ _⟩ ?_
      intro W6 BY
      clear d0_ d1_ d2_ fz A5 T5 BX5 HX5
      by_cases h0 : S.1 = 0
      ·have e1 : (S.1 != 0) = false := by rw [bne_eq_false_iff_eq]; exact h0
       obtain ⟨⟨a0_, a1_, a2_⟩, a3_, a4_, a5_, a6_⟩ := BY.out.2.1.seven
       obtain ⟨d0_, d1_, d2_⟩ := BY.out.2.2.1.three
       have hnn : i < maxLen := by unfold maxLen; omega
       have HPD2 : Hd (putD order al t = (0, setM al t.m S.2)) := ⟨by rw [HPD.out, if_neg (by rw [h0]; simp)]⟩
       clear HPD h0
       go_wp2_with (at_mapUpdate; refine wpList_mapUpdate_in _ rfl _ _ _ 261 rfl 66 64 Tryz.keyed Tryz.mapT elR g i D rfl BY.out.1.map.own hnn (mv t.m) (.agg #[.bool S.2.neg, .slice xA S.2.num.length xc, .slice xB S.2.den.length xd]) (ml t.m) rfl rfl (keyOf_mv HM.out) (.held (.agg #[.bool S.2.neg, .slice xA S.2.num.length xc, .slice xB S.2.den.length xd])) [] rfl ?_)
       intro w7 hown7 hturn7
       have K7 := Hd.mk (BY.out.1.put HB0.out (bl := setM al t.m S.2) (t := ⟨S.2, t.m⟩) HM.out BY.out.2.2.2 (fun s => mem_setM HHH.out) hown7 hturn7 (BY.out.1.sta.set _ _) HSS.out)
       clear hown7 hturn7
       go_wp2_with fail
       go_roundw
       case measure => first | (simp [intOf]; done) | (simp [intOf]; omega)
       case rel =>
        refine ⟨i + 1, _, _, by go_num, by omega, K7, ⟨?_⟩⟩
        rw [hput.out, HPUT.out, HPD2.out]; rfl
      ·have e1 : (S.1 != 0) = true := by rw [bne_iff_ne]; exact h0
       go_wp2_with fail
       go_ret2
       have HE : polMake order ts = (S.1, []) := by
        unfold polMake
        rw [HO.out, HD.out, hput.out, HPUT.out, HPD.out]
        simp [h0]
       rw [HE]
       exact ⟨none, 0, rfl, Nat.le_refl _, RPol.nil _ _ _, BY.out.1.below, Fr.none _⟩
    ·have hie : i = ts.length := by omega
     subst hie
     have HALL : Hd (putAll order [] ts = (0, al)) := ⟨by rw [hput.out, List.drop_length]; rfl⟩
     clear hput hi
     have hszD : size D ≤ ts.length := hk.out.map.own.size_le
     obtain ⟨i0, hi0, hz0, hz1, hz2⟩ := info_split Tryz.infTerm
     obtain ⟨w3, hmk, hown3, hgr3⟩ := run_make_own (P := Tryz.prog) wr w.heap.size 25 68 i0 _ 7 Tryz.slPoly hi0 hz0 hz1 .i64 .i64 (size D) (by rw [hz2]; omega) (by unfold maxLen; omega) hk.out.below.size
     have hb3 : Below wr.heap.size wr w3 := ⟨hgr3.os, hgr3.tape, hgr3.output, hgr3.size, fun k hk => hgr3.block k hk (by simp)⟩
     have M3 := Hd.mk (hk.out.up hb3)
     have O3 := Hd.mk hown3
     clear hi0 hz0 hz1 hz2 hlt hown3 hgr3
     go_wp2_with (first
      | (at_len; refine wpList_len_own _ rfl _ 261 rfl 66 64 Tryz.mapT elR g _ D rfl hk.out.map.own ?_)
      | (at_range; refine wpList_range_own _ rfl _ 261 rfl 66 64 Tryz.keyed Tryz.mapT elR g _ D rfl M3.out.map.own ?_))
     intro w4 hrg4 hg4 hs4
     have hb4 : Below w3.heap.size w3 w4 := ⟨hg4.os, hg4.tape, hg4.output, hg4.size, fun k hk => hg4.block k hk (by simp)⟩
     have M4 := Hd.mk (M3.out.up hb4)
     have LS : Hd (L2 b0 g w.heap.size w3.heap.size order w w4 ts.length al D (has D) (size D) [] (.slice (some ⟨wr.heap.size, 0, none⟩) 0 (size D)) []) := ⟨⟨M4.out.below, M4.out.box, HB0.out, M4.out.s2, M3.out.below.size, hrg4, M4.out.map, M4.out.sta, M4.out.short, (fun _ h => by cases h), List.nodup_nil, (fun kl => by rw [M4.out.map.has]; simp), own_below O3.out hb4, ⟨_, rfl⟩, fun _ h => by cases h⟩⟩
     obtain ⟨r, hr⟩ : ∃ r, w3.heap.size = r := ⟨_, rfl⟩
     rw [hr] at LS ⊢
     clear hr hrg4 hg4 hs4 hb4 M4 M3 O3 hmk hb3 hk
     go_wp2_with fail
     go_loopw [13] (fun v wx => ∃ (left : Lit → Bool) (cnt : Nat) (vs : List TermD) (cs : List Cell), Hd (L2 b0 g w.heap.size r order w wx ts.length al D left cnt vs v cs) ∧ Hd (cs.map (·.t) = vs.filter nz) ∧ wx.rangeLeft g r = cnt ∧ vs.length + cnt ≤ ts.length) (fun _ wx => wx.rangeLeft g r)
     case atStart => exact ⟨_, _, _, _, LS, ⟨rfl⟩, LS.out.rg.left_eq, by simpa using hszD⟩
     case round =>
      obtain ⟨left, cnt, vs, cs, hL, hT, hcnt, hvl⟩ := hrel
      have HCNT := Hd.mk hcnt
      clear hcnt
      obtain ⟨gp, hgp⟩ := hL.out.blk
      obtain ⟨cap, rfl, hcap, hcap2⟩ := own_form hL.out.own hgp
      clear hgp
      unfold maxLen at hcap2
      go_wp2_with (at_next; refine wpList_next_ranges _ rfl _ rfl 66 Tryz.keyed elR (fun x : Value => x) (fun x : Value => x) (fun key kl h => ⟨key, rfl⟩) (fun v y h => ⟨v, rfl⟩) g r ts.length D left cnt rfl hL.out.rg ?_ ?_)
      ·intro hc0 hl0
       have hpm := hL.out.all hl0 hT.out
       have hlen : cs.length = (al.filter nz).length := by rw [← hpm.length_eq, List.length_map]
       have HPM := Hd.mk hpm
       clear hl0 hc0 hpm
       have hcl : cs.length ≤ 1000000 := by
        have := hL.out.sta.nodup
        have h1 := (List.filter_sublist (p := nz) (l := al)).length_le
        have h2 := putAll_len HALL.out
        omega
       by_cases h60 : 60 < cs.length
       ·have h60' : (60 : Int) < cs.length := by omega
        have HE : Hd (polMake order ts = (90, [])) := ⟨by
         unfold polMake
         rw [HO.out, HD.out, HALL.out]
         simp [← hlen, h60]⟩
        clear hlen h60
        go_wp2_with fail
        go_ret2
        rw [HE.out]
        exact ⟨none, 0, rfl, Nat.le_refl _, RPol.nil _ _ _, hL.out.below, Fr.none _⟩
       ·have h60' : (cs.length : Int) ≤ 60 := by omega
        have HE : Hd (polMake order ts = (0, al.filter nz)) := ⟨by
         unfold polMake
         rw [HO.out, HD.out, HALL.out]
         simp [← hlen, h60]⟩
        clear hlen h60
        obtain ⟨hH, hgl, hgb⟩ := own_holds hL.out.own rfl
        obtain ⟨⟨ds0, hbk⟩, _⟩ := own_bk hL.out.own (gp := gp) rfl
        have hne : w.heap.size ≠ gp := fun e => by subst e; exact Bk.ne_ hbk hL.out.box (by decide) rfl
        have CS := Hd.mk (sort_terms order (ordered_ok.1 HO.out) gp w.heap.size cap cs wr hH hgl hL.out.box.one hne (by omega) (perm_keys hL.out.sta HPM.out))
        have HG := Hd.mk (And.intro hgb hbk)
        clear hH hgl hgb hbk hne
        go_wp2_with fail
        refine CS.out.mono ?_
        rintro e w9 ⟨rfl, ds, hd1, hd2, hg9, hH9⟩
        have HD1 := Hd.mk hd1
        have HD2 := Hd.mk hd2
        have HG9 := Hd.mk hg9
        have HH9 := Hd.mk hH9
        clear hd1 hd2 hg9 hH9
        go_wp2_with fail
        go_ret2
        have heq : ds.map (·.t) = al.filter nz := fall_eq hL.out.sta.ord (fun t ht => by obtain ⟨x, _, rfl⟩ := List.mem_map.1 ht; exact x.hm) HD2.out (hL.out.sta.fall.filter nz) ((HD1.out.map _).trans HPM.out)
        have hln : (al.filter nz).length = cs.length := by rw [← heq, List.length_map, HD1.out.length_eq]
        rw [HE.out]
        have hr : ∀ g', some gp = some g' → b0 ≤ g' ∧ ∀ cs, ¬ Bk wr g' 112 cs := fun g' e => by injection e with e; subst e; exact ⟨Nat.le_trans HB0.out HG.out.1, not_limbs HG.out.2 (by decide)⟩
        have hgl9 : gp < w9.heap.size := Nat.lt_of_lt_of_le HG.out.2.lt HG9.out.size
        refine ⟨some ⟨gp, 0, none⟩, cap, (by rw [hln]; rfl), by rw [hln]; exact hcap, ⟨ds.flatMap encC, ?_, ?_⟩, hL.out.below.grown HG9.out hL.out.below.size (fun k hk => by injection hk with hk; subst hk; exact HG.out.1), fun ad e => by injection e with e; subst e; exact HG.out.1⟩
        ·rw [← heq, List.length_map]; exact holds_rd HH9.out hgl9
        ·rw [← heq]; exact tcs_of fun x hx => (hL.out.tc x (HD1.out.mem_iff.1 hx)).grown' HG9.out hr
      ·intro x cv kl y y2 w1 cnt1 hkx hlx hRy hat hrg1 hlt1 hg1 hs1 hen
       obtain ⟨t, hta, htk, htv⟩ := (hL.out.lft kl).1 hlx
       have hmt := hL.out.map.good t hta
       obtain ⟨u, hu1, hu2⟩ := hL.out.map.val t hta
       subst htk
       have ex : x = mv t.m := Tryz.keyed.inj hkx (keyOf_mv hmt)
       have ec : cv = u := by
        have h1 := hat (.held zRatV)
        rw [hu1] at h1
        unfold elR at hRy
        injection hRy with hRy
        injection hRy with hRy _
        rw [← hRy] at h1
        injection h1 with h1
        exact h1.symm
       subst ex ec
       have L1 := Hd.mk (hL.out.next hta htv hg1 hrg1)
       have HU := Hd.mk (show RRat w1 b0 cv t.c from let ⟨v', h1, h2⟩ := L1.out.map.val t hta; by
        have := (h1 (.held zRatV)).symm.trans (hu1 (.held zRatV))
        injection this with this
        rw [← this]; exact h2)
       obtain ⟨pA, pc, pB, pd, rfl, hpc, hpd, _, _⟩ := hu2
       have HMT := Hd.mk hmt
       have hsh := Hd.mk (hL.out.short t hta)
       have HLT := Hd.mk hlt1
       unfold mv at hen
       clear hkx hlx hRy hat hrg1 hlt1 hg1 hs1 hu1 hta htv hmt hL
       go_upto_region 20 with (fail)
       refine wp_gen (fun W => L2 b0 g w.heap.size r order w W ts.length al D (fun z => left z && !z.sameKey (ml t.m)) cnt1 (vs ++ [t]) (.slice (some ⟨gp, 0, none⟩) cs.length cap) cs ∧ RRat W b0 (.agg #[.bool t.c.neg, .slice pA t.c.num.length pc, .slice pB t.c.den.length pd]) t.c ∧ Bk W w1.heap.size 66 #[.int .i64 t.m.x0, .int .i64 t.m.x1, .int .i64 t.m.x2, .int .i64 t.m.x3] ∧ Bk W (w1.heap.size + 1) 64 #[.bool t.c.neg, .slice pA t.c.num.length pc, .slice pB t.c.den.length pd])
        ⟨(L1.out.up ((Below.refl _ _).alloc (Nat.le_refl _) _)).up ((Below.refl _ _).alloc (Nat.le_refl _) _), (HU.out.up ((Below.refl _ _).alloc (Nat.le_refl _) _)).up ((Below.refl _ _).alloc (Nat.le_refl _) _), (Bk.new_ _ _ _).al _, by
         have := Bk.new_ (w1.alloc (.cells #[.int .i64 t.m.x0, .int .i64 t.m.x1, .int .i64 t.m.x2, .int .i64 t.m.x3] 66)) 64 #[.bool t.c.neg, .slice pA t.c.num.length pc, .slice pB t.c.den.length pd]
         simpa using this⟩ ?_
       intro W BZ
       obtain ⟨gC, hgC⟩ : ∃ gC, w1.heap.size + 1 = gC := ⟨_, rfl⟩
       obtain ⟨gM, hgM⟩ : ∃ gM, w1.heap.size = gM := ⟨_, rfl⟩
       rw [hgC] at BZ ⊢
       rw [hgM] at BZ ⊢
       clear hgC hgM hen L1 HU
       obtain ⟨d0_, d1_, d2_⟩ := BZ.out.2.2.2.three
       have CZ := Hd.mk (ratio_Zero b0 _ t.c W BZ.out.2.1)
       have hvl2 : vs.length + 1 + cnt1 ≤ ts.length := by have := HLT.out; omega
       have hcl : cs.length ≤ vs.length := by
        have h1 : (cs.map (·.t)).length = cs.length := List.length_map _
        rw [← h1, hT.out]
        exact (List.filter_sublist (p := nz) (l := vs)).length_le
       cases hz : decide (t.c.num.length = 0)
       ·rw [hz] at CZ
        have HNZ : Hd (nz t = true) := ⟨by unfold nz; rw [hz]; rfl⟩
        clear hz
        go_wp2_with fail
        refine CZ.out.mono ?_
        rintro e w5 ⟨rfl, hb5⟩
        have L5 := Hd.mk (BZ.out.1.up hb5)
        have R5 := Hd.mk (BZ.out.2.1.up hb5)
        have M5 := Hd.mk (BZ.out.2.2.1.up hb5)
        have C5 := Hd.mk (BZ.out.2.2.2.up hb5)
        clear hb5 CZ d0_ d1_ d2_
        obtain ⟨d0_, d1_, d2_⟩ := C5.out.three
        obtain ⟨f0_, f1_, f2_, f3_⟩ := M5.out.four
        have L6 := Hd.mk (L5.out.up ((Below.refl _ _).alloc (Nat.le_refl _) (Obj.cells #[.bool t.c.neg, .slice pA t.c.num.length pc, .slice pB t.c.den.length pd, .int .i64 t.m.x0, .int .i64 t.m.x1, .int .i64 t.m.x2, .int .i64 t.m.x3] 68)))
        have R6 := Hd.mk (R5.out.up ((Below.refl _ _).alloc (Nat.le_refl _) (Obj.cells #[.bool t.c.neg, .slice pA t.c.num.length pc, .slice pB t.c.den.length pd, .int .i64 t.m.x0, .int .i64 t.m.x1, .int .i64 t.m.x2, .int .i64 t.m.x3] 68)))
        have RN := Hd.mk (Rd.new_ w5 #[.bool t.c.neg, .slice pA t.c.num.length pc, .slice pB t.c.den.length pd, .int .i64 t.m.x0, .int .i64 t.m.x1, .int .i64 t.m.x2, .int .i64 t.m.x3] 68 1 7 rfl)
        obtain ⟨i0, hi0, hz0, hz1, hz2⟩ := info_split Tryz.infTerm
        have x63 : cs.length + 1 ≤ maxLen := by unfold maxLen; omega
        have xby : (cs.length + 1) * 88 ≤ 140737488355328 := by omega
        go_wp2_with (at_builtin; refine wpList_append_rd _ rfl _ _ 25 rfl w.heap.size 68 i0 _ 7 88 Tryz.slPoly hi0 hz0 hz1 hz2 rfl (by decide) _ cs.length (cs.flatMap encC) rfl L6.out.own _ _ 1 _ (encC ⟨pA, pc, pB, pd, t, HMT.out⟩) rfl RN.out (encC_one _) x63 xby L6.out.below.size ?_)
        intro v' w6 ho hg hv
        have L7 := Hd.mk (L6.out.app (x := ⟨pA, pc, pB, pd, t, HMT.out⟩) (by
         obtain ⟨x1, x2, x3, x4, e, y1, y2, y3, y4⟩ := R6.out
         simp only [Value.agg.injEq, Array.mk.injEq, List.cons.injEq, Value.slice.injEq, true_and, and_true] at e
         obtain ⟨⟨rfl, rfl⟩, rfl, rfl⟩ := e
         exact ⟨_, _, _, _, rfl, y1, y2, y3, y4⟩) hg ho (by simpa [Value.ownBlock] using hv))
        clear ho hg hv
        go_wp2_with fail
        go_roundw
        case measure => rw [L7.out.rg.left_eq, HCNT.out]; exact HLT.out
        case rel =>
         refine ⟨_, _, _, _, L7, ⟨?_⟩, L7.out.rg.left_eq, ?_⟩
         ·rw [List.map_append, hT.out, List.filter_append, List.filter_cons, HNZ.out]; rfl
         ·rw [List.length_append]; simpa using hvl2
       ·rw [hz] at CZ
        have HNZ : Hd (nz t = false) := ⟨by unfold nz; rw [hz]; rfl⟩
        clear hz
        go_wp2_with fail
        refine CZ.out.mono ?_
        rintro e w5 ⟨rfl, hb5⟩
        have L5 := Hd.mk (BZ.out.1.up hb5)
        clear hb5 CZ
        go_wp2_with fail
        go_roundw
        case measure => rw [L5.out.rg.left_eq, HCNT.out]; exact HLT.out
        case rel =>
         refine ⟨_, _, _, _, L5, ⟨?_⟩, L5.out.rg.left_eq, ?_⟩
         ·rw [hT.out, List.filter_append, List.filter_cons, HNZ.out]; simp
         ·rw [List.length_append]; simpa using hvl2
  ·have HE : Hd (polMake order ts = (1, [])) := ⟨by unfold polMake; rw [ho, hodd]; rfl⟩
   have CO := Hd.mk (fun W => poly_ordered order W)
   rw [ho] at CO
   have CD := Hd.mk (fun W hW => contains_odd b0 A c ts W hW hc HS.out)
   rw [hodd] at CD
   clear ho hodd
   go_enter Tryz.func177, Tryz.ntmps177
   go_wp2_with fail
   refine (CO.out _).mono ?_
   rintro e w' ⟨rfl, rfl⟩
   go_wp2_with fail
   refine (CD.out _ (HP.out.up ((Below.refl _ _).alloc (Nat.le_refl _) _))).mono ?_
   rintro e w2 ⟨rfl, hb2⟩
   have K2 := Hd.mk (((Below.refl w.heap.size w).alloc (Nat.le_refl _) (Obj.cells #[.int .i64 order] 3)).trans (hb2.mono (by simp)))
   clear hb2
   go_wp2_with fail
   go_ret2
   rw [HE.out]
   exact ⟨none, 0, rfl, Nat.le_refl _, RPol.nil _ _ _, K2.out, Fr.none _⟩
end Go.Proofs.YtgjkgkgieeoalaaGreat
namespace Go.Proofs.YtgjkgkgieeoalaaGreat
open Go.RowKit
def OwnT (w : World) (b0 base : Nat) (v : Value) (ts : List TermD) : Prop := ∃ cs, w.ownsRow base 68 7 v ts.length cs ∧ TCs w b0 ts cs
section
variable {w w' : World} {b0 base : Nat} {v v' : Value} {ts us : List TermD}
theorem OwnT.nil (w : World) (b0 base : Nat) : OwnT w b0 base (.slice none 0 0) [] := ⟨[], ⟨rfl, .inl ⟨rfl, rfl⟩⟩, .nil⟩
theorem OwnT.up (h : OwnT w b0 base v ts) (hb : Below w.heap.size w w') : OwnT w' b0 base v ts := let ⟨cs, h1, h2⟩ := h; ⟨cs, own_below h1 hb, h2.up hb⟩
theorem OwnT.low {base' : Nat} (h : OwnT w b0 base v ts) (hb : base' ≤ base) : OwnT w b0 base' v ts := by
 obtain ⟨cs, ⟨h1, h3⟩, h2⟩ := h
 refine ⟨cs, ⟨h1, ?_⟩, h2⟩
 rcases h3 with h4 | ⟨g, cap, cur, e1, h5, r⟩
 ·exact .inl h4
 ·exact .inr ⟨g, cap, cur, e1, Nat.le_trans hb h5, r⟩
theorem OwnT.reads (h : OwnT w b0 base v ts) : ∃ A c, v = .slice A ts.length c ∧ ts.length ≤ c ∧ c ≤ maxLen ∧ RPol w b0 A ts := by
 obtain ⟨cs, h1, h2⟩ := h
 obtain ⟨A, c, hv, hl, hm⟩ : ∃ A c, v = .slice A ts.length c ∧ ts.length ≤ c ∧ c ≤ maxLen := by
  rcases h1.2 with ⟨e1, h0⟩ | ⟨g, cap, cur, e1, _, _, h4, h5, _⟩
  ·exact ⟨_, _, by rw [h0]; exact e1, by omega, by unfold maxLen; omega⟩
  ·exact ⟨_, _, e1, h4, h5⟩
 subst hv
 exact ⟨A, c, rfl, hl, hm, cs, Rd.of_own h1, h2⟩
theorem own_row_ok {e : TypeId} {sz n : Nat} {xs : List Value} (h : w.ownsRow base e sz v n xs) (hb : b0 ≤ base) (he : e ≠ 112) : ∀ g, v.ownBlock = some g → b0 ≤ g ∧ ∃ t cs, Bk w g t cs ∧ t ≠ 112 := fun g e' => by
 obtain ⟨⟨cs, hk⟩, hg⟩ := own_bk h e'
 exact ⟨Nat.le_trans hb hg, _, _, hk, he⟩
theorem OwnT.fr {A : Option Addr} {n c B : Nat} (h : OwnT w b0 base (.slice A n c) ts) (hb : B ≤ base) : Fr B A := by
 obtain ⟨cs, h1, _⟩ := h
 rcases h1.2 with ⟨e, _⟩ | ⟨g, cap, cur, e, h2, _⟩
 ·injection e with e; subst e; exact Fr.none _
 ·injection e with e; subst e; exact fun ad e => by injection e with e; subst e; exact Nat.le_trans hb h2
theorem OwnT.app {cs ds : List Value} (h1 : w.ownsRow base 68 7 v ts.length cs) (h2 : TCs w b0 ts cs) (h3 : TCs w b0 us ds) (hb : b0 ≤ base) (hg : w.grownBy w' v.ownBlock) (ho : w'.ownsRow base 68 7 v' (ts.length + us.length) (cs ++ ds)) :
    OwnT w' b0 base v' (ts ++ us) := by
 have hr := own_row_ok h1 hb (by decide)
 refine ⟨cs ++ ds, ?_, (h2.grown hg hr).app (h3.grown hg hr)⟩
 rw [List.length_append]; exact ho
end
def RPols (w : World) (b0 : Nat) (A : Option Addr) (ps : List (List TermD)) : Prop :=
 ∃ cs, Rd w w.heap.size 1 A ps.length cs ∧ ∀ (j : Nat) (p : List TermD), ps[j]? = some p → ∃ a c, cs[j]? = some (.slice a p.length c) ∧ p.length ≤ c ∧ RPol w b0 a p
section
variable {w w' : World} {b0 : Nat} {A : Option Addr} {ps : List (List TermD)}
theorem RPols.up (h : RPols w b0 A ps) (hb : Below w.heap.size w w') : RPols w' b0 A ps := by
 obtain ⟨cs, h1, h2⟩ := h
 exact ⟨cs, h1.up hb, fun j p hp => let ⟨a, c, e, hc, hr⟩ := h2 j p hp; ⟨a, c, e, hc, hr.up hb⟩⟩
theorem RPols.get (h : RPols w b0 A ps) {j : Nat} (hj : j < ps.length) : ∃ (ad : Addr) (a : Option Addr) (c : Nat) (p : List TermD), A = some ad ∧ ad.block < w.heap.size ∧ Hd (ps[j]? = some p) ∧ w.cell? (ad.add j) = some (.slice a p.length c) ∧ p.length ≤ c ∧ Hd (RPol w b0 a p) := by
 obtain ⟨cs, h1, h2⟩ := h
 obtain ⟨ad, e, hb, hc⟩ := h1.2 (by omega)
 obtain ⟨a, c, e2, hl, hr⟩ := h2 j ps[j] (List.getElem?_eq_getElem hj)
 exact ⟨ad, a, c, ps[j], e, hb, ⟨List.getElem?_eq_getElem hj⟩, hc j _ e2, hl, ⟨hr⟩⟩
theorem RPols.nil (w : World) (b0 : Nat) (A : Option Addr) : RPols w b0 A [] := ⟨[], Rd.nil, fun j p h => by simp at h⟩
end
def polAdd (o : Int) (ps : List (List TermD)) : Int × List TermD := if ps.all (polMay o) = false then (1, []) else polMake o ps.flatten
def shortPs (ps : List (List TermD)) : Prop := ps.length ≤ 10000 ∧ ∀ p ∈ ps, shortP p
theorem polMay_len {o : Int} {p : List TermD} (h : polMay o p = true) : p.length ≤ 60 := by
 unfold polMay at h
 simp only [Bool.and_eq_true, decide_eq_true_eq] at h
 exact h.2.2
theorem flat_le {o : Int} : ∀ {ps : List (List TermD)}, ps.all (polMay o) = true → ps.flatten.length ≤ 60 * ps.length
 | [], _ => by simp
 | p :: ps, h => by
   rw [List.all_cons, Bool.and_eq_true] at h
   have h1 := polMay_len h.1
   have h2 := flat_le h.2
   rw [List.flatten_cons, List.length_append, List.length_cons]
   omega
theorem all_take {f : List TermD → Bool} {ps : List (List TermD)} {i : Nat} {p : List TermD} (hp : ps[i]? = some p) : (ps.take (i + 1)).all f = ((ps.take i).all f && f p) := by
 rw [List.take_add_one, hp, List.all_append]; simp
theorem flat_take {ps : List (List TermD)} {i : Nat} {p : List TermD} (hp : ps[i]? = some p) : (ps.take (i + 1)).flatten = (ps.take i).flatten ++ p := by
 rw [List.take_add_one, hp, List.flatten_append]; simp
theorem Tryz.slTerms : Tryz.prog.underlying 24 = some (.slice 68) := by kernel_rfl
theorem append_two {P : Program} {t t2 ty e e2 : TypeId} {i : TypeInfo} (ht : P.underlying t = some (.slice e)) (ht2 : P.underlying t2 = some (.slice e2)) (hi : P.info? e = some i) (v x : Value) (w : World) :
    (Builtin.append_ #[t, t2] ty #[v, x]).run P w = (Builtin.append_ #[t, t] ty #[v, x]).run P w := by
 cases v <;> simp [Builtin.append_, run_underlying ht, run_underlying ht2, sizeOf, typeInfo, hi]
theorem wpList_append_rd2 {P : Program} (w : World) {ops : Array Oper} {rest : List Oper} {o : Oper} {a : Act} {Q : Exit → Act → World → Prop} (hgd : o.guard = none) (s x : Operand) (t t2 : TypeId)
    (ho : o.op = .call { callee := .builtin .append, args := #[s, x], argTypes := #[t, t2] })
    (base : Nat) (e : TypeId) (i : TypeInfo) (z : Value) (sz bytes : Nat) (ht : P.underlying t = some (.slice e)) (ht2 : P.underlying t2 = some (.slice e)) (hi : P.info? e = some i) (hz : i.zero = some z)
    (hsize : i.size = sz) (hby : i.bytes = bytes) (hzs : z.cells.size = sz) (hsz : 0 < sz)
    (v : Value) (n : Nat) (xs : List Value) (hs : a.eval s = v) (hown : w.ownsRow base e sz v n xs)
    (B : Nat) (A : Option Addr) (m c : Nat) (news : List Value) (hx : a.eval x = .slice A m c) (hr : Rd w B sz A m news) (h1 : ∀ u ∈ news, u.oneCell' = true)
    (h63 : n + m ≤ maxLen) (hbytes : (n + m) * bytes ≤ 140737488355328) (hbase : base ≤ w.heap.size)
    (h : ∀ v' w', w'.ownsRow base e sz v' (n + m) (xs ++ news) → w.grownBy w' v.ownBlock → (v'.ownBlock = v.ownBlock ∨ v'.ownBlock = some w.heap.size) → wpList P ops Q rest (a.put o.dst v') w') : wpList P ops Q (o :: rest) a w := by
 refine wpList_plain hgd fun K hK => ?_
 obtain ⟨v', w', hrun, h2, h3, h4⟩ := run_append_rd (P := P) w base t o.type e i z sz bytes ht hi hz hsize hby hzs hsz v n xs hown B A m c news hr h1 h63 hbytes hbase
 unfold Oper.wp execOp
 simp only [ho, resolve, invoke, builtin, Sem.run_bind, Sem.run_pure, Result.andThen_ok, List.map_toArray, List.map_cons, List.map_nil, hs, hx]
 rw [append_two ht ht2 hi, hrun]
 exact hK _ _ (h v' w' h2 h3 h4)
theorem poly_AddF (b0 : Nat) (order : Int) (A : Option Addr) (c : Nat) (ps : List (List TermD)) (w : World) (hb0 : b0 ≤ w.heap.size) (h : RPols w b0 A ps) (hc : ps.length ≤ c) (hs : shortPs ps) :
    Calls Tryz.prog 99 #[.int .i64 order, .slice A ps.length c] w fun e w' => ∃ A' c', e = .returned (.tuple #[.slice A' (polAdd order ps).2.length c', .int .i64 (polAdd order ps).1]) ∧
     (polAdd order ps).2.length ≤ c' ∧ RPol w' b0 A' (polAdd order ps).2 ∧ Below w.heap.size w w' ∧ Fr w.heap.size A' := by
 have HP := Hd.mk h
 have HS := Hd.mk hs
 have HB0 := Hd.mk hb0
 have hl := hs.1
 clear h hs hb0
 go_enter Tryz.func99, Tryz.ntmps99
 go_wp2_with fail
 go_loopw [6, 11] (fun v6 v11 wr => ∃ i : Nat, v11 = .int .i64 i ∧ i ≤ ps.length ∧ Hd (OwnT wr b0 w.heap.size v6 (ps.take i).flatten) ∧ Hd ((ps.take i).all (polMay order) = true) ∧ Hd (Below w.heap.size w wr)) (fun _ v _ => ps.length - (intOf v).toNat)
 case atStart => exact ⟨0, rfl, by omega, ⟨OwnT.nil _ _ _⟩, ⟨rfl⟩, ⟨.refl _ _⟩⟩
 case round =>
  obtain ⟨i, rfl, hi, ho, ha, hb⟩ := hrel
  by_cases hlt : i < ps.length
  ·obtain ⟨ad, a, pc, p, rfl, hab, hp, hcell, hpc, hrp⟩ := (HP.out.up hb.out).get hlt
   have i2 : (i : Int) < ps.length := by omega
   have i3 : (0 : Int) ≤ i := by omega
   have hsp := Hd.mk (HS.out.2 p (List.mem_of_getElem? hp.out))
   have CM := Hd.mk (poly_May b0 order a pc p wr hrp.out hpc hsp.out)
   have HA : Hd ((ps.take (i + 1)).all (polMay order) = ((ps.take i).all (polMay order) && polMay order p)) := ⟨all_take hp.out⟩
   have HF : Hd ((ps.take (i + 1)).flatten = (ps.take i).flatten ++ p) := ⟨flat_take hp.out⟩
   cases hm : polMay order p
   ·rw [hm] at CM HA
    have HE : Hd (polAdd order ps = (1, [])) := ⟨by
     have h1 : ps.all (polMay order) = false := List.all_eq_false.2 ⟨p, List.mem_of_getElem? hp.out, by rw [hm]; simp⟩
     unfold polAdd; rw [if_pos h1]⟩
    clear hm
    go_wp2_with fail
    refine CM.out.mono ?_
    rintro e w4 ⟨rfl, hb4⟩
    have HB4 := Hd.mk (hb.out.trans (hb4.mono hb.out.size))
    clear hb4
    go_wp2_with fail
    go_ret2
    rw [HE.out]
    exact ⟨none, 0, rfl, Nat.le_refl _, RPol.nil _ _ _, HB4.out, Fr.none _⟩
   ·rw [hm] at CM HA
    have hpl := polMay_len hm
    have hfl := flat_le ha.out
    have hti : (ps.take i).length ≤ i := List.length_take_le _ _
    have hfn : (ps.take i).flatten.length ≤ 600000 := by omega
    obtain ⟨F, hF⟩ : ∃ F, (ps.take i).flatten = F := ⟨_, rfl⟩
    rw [hF] at ho HF hfn
    clear hF hfl hti
    clear hm
    go_wp2_with fail
    refine CM.out.mono ?_
    rintro e w4 ⟨rfl, hb4⟩
    have HB4 := Hd.mk (hb.out.trans (hb4.mono hb.out.size))
    obtain ⟨cs4, o1, o2⟩ := ho.out.up hb4
    obtain ⟨ds4, r1, r2⟩ := hrp.out.up hb4
    have O1 := Hd.mk o1
    have O2 := Hd.mk o2
    have R1 := Hd.mk r1
    have R2 := Hd.mk r2
    obtain ⟨Av, cv, hv, _, _, _⟩ := ho.out.reads
    subst hv
    clear hb4 o1 o2 r1 r2 CM hcell
    obtain ⟨i0, hi0, hz0, hz1, hz2⟩ := info_split Tryz.infTerm
    have x63 : F.length + p.length ≤ maxLen := by unfold maxLen; omega
    have xby : (F.length + p.length) * 88 ≤ 140737488355328 := by omega
    go_wp2_with (at_builtin; refine wpList_append_rd2 _ rfl _ _ 24 25 rfl w.heap.size 68 i0 _ 7 88 Tryz.slTerms Tryz.slPoly hi0 hz0 hz1 hz2 rfl (by decide) _ F.length cs4 rfl O1.out _ _ p.length _ ds4 rfl R1.out R2.out.one x63 xby HB4.out.size ?_)
    intro v' w6 ho6 hg6 hv6
    have O6 := Hd.mk (OwnT.app O1.out O2.out R2.out HB0.out hg6 ho6)
    have HB6 := Hd.mk (grown_below O1.out hg6 HB4.out HB4.out.size)
    clear ho6 hg6 hv6 hi0 hz0 hz1 hz2 x63 xby
    go_wp2_with fail
    go_roundw
    case measure => first | (simp [intOf]; done) | (simp [intOf]; omega)
    case rel => exact ⟨i + 1, by go_num, by omega, ⟨by rw [HF.out]; exact O6.out⟩, ⟨by rw [HA.out, ha.out]; rfl⟩, HB6⟩
  ·have hie : i = ps.length := by omega
   subst hie
   have hfl := flat_le ha.out
   rw [List.take_length] at ho ha hfl
   have HE : Hd (polAdd order ps = polMake order ps.flatten) := ⟨by unfold polAdd; rw [ha.out]; rfl⟩
   have hsf : shortP ps.flatten := ⟨by omega, fun t ht => by
    obtain ⟨p, hp, htp⟩ := List.mem_flatten.1 ht
    exact (HS.out.2 p hp).2 t htp⟩
   obtain ⟨F, hF⟩ : ∃ F, ps.flatten = F := ⟨_, rfl⟩
   rw [hF] at ho HE hsf
   clear hF hfl
   obtain ⟨Av, cv, rfl, hcv, _, hr⟩ := ho.out.reads
   have CK := Hd.mk (poly_MakeF b0 order Av cv F wr (Nat.le_trans HB0.out hb.out.size) hr hcv hsf)
   clear hr hsf
   go_wp2_with fail
   refine CK.out.mono ?_
   rintro e w4 ⟨A', c', rfl, hc', hr', hb4, hfr⟩
   have HFR := Hd.mk (hfr.le hb.out.size)
   have HC' := Hd.mk hc'
   have HR' := Hd.mk hr'
   have HB4 := Hd.mk (hb.out.trans (hb4.mono hb.out.size))
   clear hb4 hc' hr' hfr
   go_wp2_with fail
   go_ret2
   rw [HE.out]
   exact ⟨A', c', rfl, HC'.out, HR'.out, HB4.out, HFR.out⟩
end Go.Proofs.YtgjkgkgieeoalaaGreat
