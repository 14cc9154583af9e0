/- Parts of the proof, joined: each theorem says what it shows. -/
import Derived.Test.YtgjkgkgieeoalaaGreatA38
set_option linter.unusedVariables false
set_option linter.unusedSimpArgs false
set_option maxHeartbeats 24000000
set_option maxRecDepth 100000
namespace Go.Proofs.YtgjkgkgieeoalaaGreat
open Go.RowKit
theorem poly_lit (w : World) (base : Nat) (hb : base ≤ w.heap.size) : (w.alloc (.cells #[] 25)).ownsRow base 25 1 (.slice (some ⟨w.heap.size, 0, none⟩) 0 0) 0 [] :=
 World.ownsRow_lit (e := 25) (size := 1) w #[] 0 hb (by unfold maxLen; omega) rfl
theorem radd_new {b0 : Nat} {o : Int} {p x : List TermD} {Y : Int × List TermD} (hs : shortPs [p, x]) (he : polAdd o [p, x] = Y) {W : World} {A B : Option Addr} {c d : Nat} (hb : b0 ≤ W.heap.size) (hp : RPol W b0 A p) (hx : RPol W b0 B x) (hc : p.length ≤ c) (hd : x.length ≤ d) :
    Calls Tryz.prog 44 #[.int .i64 o, .slice (some ⟨W.heap.size, 0, none⟩) 2 2] (W.alloc (.cells #[.slice A p.length c, .slice B x.length d] 25)) fun e w' => ∃ A' c', e = .returned (.tuple #[.slice A' Y.2.length c', .int .i64 Y.1]) ∧ Y.2.length ≤ c' ∧ RPol w' b0 A' Y.2 ∧ Below W.heap.size W w' ∧ Fr W.heap.size A' := by
 subst he
 refine (rpol_AddF b0 o (some ⟨W.heap.size, 0, none⟩) 2 [p, x] _ (Nat.le_trans hb (below1 _ _).size) (rpols_bk2 (p := p) (q := x) (Bk.new_ _ _ _) (hp.up (below1 _ _)) (hx.up (below1 _ _)) hc hd) (Nat.le_refl _) (by simp) hs).mono ?_
 rintro e w' ⟨A', c', h1, h2, h3, h4, h5⟩
 exact ⟨A', c', h1, h2, h3, goes (below1 _ _) h4, h5.le (below1 _ _).size⟩
theorem ref_Split (b0 : Nat) (o : Int) (A L : Option Addr) (c cl : Nat) (p : List TermD) (l : List (List TermD)) (w : World) (hb0 : b0 ≤ w.heap.size) (h : RPol w b0 A p) (hc : p.length ≤ c) (hs : shortP p) (hL : RPols w b0 L l) (hcl : l.length ≤ cl) (hsl : shortPs l) :
    Calls Tryz.prog 100 #[.int .i64 o, .slice A p.length c, .slice L l.length cl] w (SplitPost b0 w (splitD o p l)) := by
 obtain ⟨D, hD⟩ : ∃ D, splitD o p l = D := ⟨_, rfl⟩
 rw [hD]
 have HD := Hd.mk hD
 have HP := Hd.mk h
 have HL := Hd.mk hL
 have HS := Hd.mk (And.intro hs hsl)
 have HB0 := Hd.mk hb0
 have hl := hsl.1
 clear hD h hL hs hsl hb0
 have C1 := Hd.mk (rpol_May b0 o A c p w HP.out hc HS.out.1)
 cases hm : polMay o p
 ·rw [hm] at C1
  have HF : Hd (D = (1, [], [])) := ⟨by rw [← HD.out]; exact splitD_bad1 (by rw [hm]; rfl)⟩
  clear hm
  go_enter Tryz.func100, Tryz.ntmps100
  go_wp2_with fail
  refine C1.out.mono ?_
  rintro e w2 ⟨rfl, hb⟩
  have HB2 := Hd.mk hb
  clear hb
  go_wp2_with fail
  go_ret3
  exact SplitPost.bad HF.out HB2.out
 rw [hm] at C1
 by_cases h24 : 24 < l.length
 ·have HF : Hd (D = (1, [], [])) := ⟨by rw [← HD.out]; exact splitD_bad1 (by rw [hm, decide_eq_false (by omega)]; rfl)⟩
  have e1 : (24 : Int) < l.length := by omega
  clear hm h24
  go_enter Tryz.func100, Tryz.ntmps100
  go_wp2_with fail
  refine C1.out.mono ?_
  rintro e w2 ⟨rfl, hb⟩
  have HB2 := Hd.mk hb
  clear hb
  go_wp2_with fail
  go_ret3
  exact SplitPost.bad HF.out HB2.out
 have e1 : ¬ (24 : Int) < l.length := by omega
 have HM := Hd.mk hm
 clear hm
 go_enter Tryz.func100, Tryz.ntmps100
 go_wp2_with fail
 refine C1.out.mono ?_
 rintro e w2 ⟨rfl, hb⟩
 have HB2 := Hd.mk hb
 clear hb C1
 go_upto_region 4 with (fail)
 refine wp_gen (fun W => Below w.heap.size w W ∧ Mat W b0 w.heap.size (.slice (some ⟨w2.heap.size, 0, none⟩) 0 0) [] (.slice none 0 0) [] []) ⟨goes HB2.out (below1 _ _), Mat.bare _ _ _ (poly_lit _ _ HB2.out.size)⟩ ?_
 intro W hW
 have HB3 := Hd.mk hW.out.1
 have HM3 := Hd.mk hW.out.2
 clear hW HB2
 generalize w2.heap.size = g9 at HM3 ⊢
 go_wp2_with fail
 go_loopw [9, 10] (fun v9 v10 wr => ∃ (i : Nat) (vs : List Value), v10 = .int .i64 i ∧ i ≤ l.length ∧ Hd (Below w.heap.size w wr) ∧ Hd (Mat wr b0 w.heap.size v9 vs (.slice none 0 0) [] (List.replicate i [])) ∧ Hd ((l.take i).all (polMay o) = true)) (fun _ v _ => l.length - (intOf v).toNat)
 case atStart => exact ⟨0, [], rfl, by omega, HB3, HM3, ⟨rfl⟩⟩
 case round =>
  clear HB3 HM3
  obtain ⟨i, vs, rfl, hi, hb, hmat, ha⟩ := hrel
  obtain ⟨Vp, Vc, hV, -, -⟩ := hmat.out.reads
  rw [List.length_replicate] at hV
  subst hV
  by_cases hil : i < l.length
  ·have i1 : (i : Int) < l.length := by omega
   have i3 : (0 : Int) ≤ i := by omega
   obtain ⟨la, a, pc, q, rfl, hab, hti, hcell, hpc, hrb⟩ := (HL.out.up hb.out).get hil
   have e2 : l[i] = q := by have := hti.out; rw [List.getElem?_eq_getElem hil] at this; injection this
   have CM := Hd.mk (rpol_May b0 o a pc q wr hrb.out hpc (HS.out.2.2 _ (List.mem_of_getElem? hti.out)))
   cases hq : polMay o q
   ·rw [hq] at CM
    have HF : Hd (D = (1, [], [])) := ⟨by
     rw [← HD.out]
     refine splitD_bad1 ?_
     have : l.all (polMay o) = false := by
      rw [List.all_eq_false]
      exact ⟨q, List.mem_of_getElem? hti.out, by rw [hq]; simp⟩
     rw [this, Bool.and_false]⟩
    clear hq e2 hti hrb
    go_wp2_with fail
    refine CM.out.mono ?_
    rintro e w5 ⟨rfl, hb5⟩
    have HB5 := Hd.mk (goes hb.out hb5)
    clear hb5 CM
    go_wp2_with fail
    go_ret3
    exact SplitPost.bad HF.out HB5.out
   ·rw [hq] at CM
    have HN : Hd ((l.take (i + 1)).all (polMay o) = true) := ⟨by rw [List.take_succ_eq_append_getElem hil, e2, List.all_append, ha.out, List.all_cons, hq]; rfl⟩
    clear hq e2 hti hrb
    go_wp2_with fail
    refine CM.out.mono ?_
    rintro e w5 ⟨rfl, hb5⟩
    have HB5 := Hd.mk (goes hb.out hb5)
    have HM5 := Hd.mk (hmat.out.up hb5)
    clear hb5 CM hmat hb hcell
    have HU := Hd.mk (ownT_lit w5 b0 w.heap.size HB5.out.size)
    have K2 := Rd.of_bk (Bk.new_ (w5.alloc (.cells #[] 68)) 25 #[.slice (some ⟨w5.heap.size, 0, none⟩) 0 0]) 1 1 rfl
    have HK2 : Hd (Rd ((w5.alloc (.cells #[] 68)).alloc (.cells #[.slice (some ⟨w5.heap.size, 0, none⟩) 0 0] 25)) ((w5.alloc (.cells #[] 68)).alloc (.cells #[.slice (some ⟨w5.heap.size, 0, none⟩) 0 0] 25)).heap.size 1 (some ⟨w5.heap.size + 1, 0, none⟩) 1 [.slice (some ⟨w5.heap.size, 0, none⟩) 0 0]) := ⟨by simp only [World.size_alloc] at K2 ⊢; exact K2⟩
    have HC1 : Hd (∀ u ∈ [Value.slice (some ⟨w5.heap.size, 0, none⟩) 0 0], u.oneCell' = true) := ⟨fun u hu => by
     rw [List.mem_singleton] at hu
     subst hu
     rfl⟩
    have HM7 := Hd.mk (HM5.out.up (below2 w5 (.cells #[] 68) (.cells #[.slice (some ⟨w5.heap.size, 0, none⟩) 0 0] 25)))
    have HU7 := Hd.mk (HU.out.up (below1 (w5.alloc (.cells #[] 68)) (.cells #[.slice (some ⟨w5.heap.size, 0, none⟩) 0 0] 25)))
    have HB7 := Hd.mk (goes HB5.out (below2 w5 (.cells #[] 68) (.cells #[.slice (some ⟨w5.heap.size, 0, none⟩) 0 0] 25)))
    have hvl : vs.length = i := by have := HM5.out.len; rw [List.length_replicate] at this; exact this
    have HVL := Hd.mk hvl
    obtain ⟨i0, hi0, hz0, hz1, hz2⟩ := info_split Tryz.infPoly
    have HX1 : Hd (vs.length + 1 ≤ maxLen ∧ (vs.length + 1) * 24 ≤ 140737488355328) := ⟨by unfold maxLen; omega, by omega⟩
    clear K2 hvl HU
    go_wp2_with (at_builtin; refine wpList_append_rd2 _ rfl _ _ 27 27 rfl w.heap.size 25 i0 _ 1 24 Tryz.slPolys Tryz.slPolys hi0 hz0 hz1 hz2 rfl (by decide) _ vs.length vs rfl HM7.out.out _ _ 1 1 _ rfl HK2.out HC1.out HX1.out.1 HX1.out.2 HB7.out.size ?_)
    intro v' w8 hown hg hat
    have HM8 := Hd.mk (HM7.out.push HB0.out HU7.out (fun i q hq g hg e => by
     have h1 := HM5.out.fam.own i q hq
     have h2 := (h1.lt e).1
     simp only [Value.ownBlock, Option.some.injEq] at hg
     omega) hg hown)
    have HB8 : Hd (Below w.heap.size w w8) := ⟨HB7.out.grown hg HB7.out.size (fun k hk => (own_bk HM7.out.out hk).2)⟩
    clear hown hg hat HM7 HU7 HB7 HK2 HM5 HB5
    rw [← List.replicate_succ'] at HM8
    have HVL := HVL.out
    go_wp2_with fail
    go_roundw
    case measure => first | (simp [intOf]; done) | (simp [intOf]; omega)
    case rel => exact ⟨i + 1, _, by go_num, by omega, HB8, HM8, HN⟩
  ·obtain rfl : i = l.length := by omega
   have HA : Hd (l.all (polMay o) = true) := ⟨by have := ha.out; rwa [List.take_length] at this⟩
   go_upto_region 11 with (fail)
   have HMR := Hd.mk (hmat.out.swapR (Nat.le_refl _) (below1 wr (.cells #[] 68)) (ownT_lit wr b0 w.heap.size hb.out.size))
   have HBR := Hd.mk (goes hb.out (below1 wr (.cells #[] 68)))
   generalize wr.alloc (.cells #[] 68) = w3 at HMR HBR ⊢
   generalize wr.heap.size = g11 at HMR ⊢
   have DR : Hd (Rv b0 L cl l w w3 A c p (.slice Vp l.length Vc) (.slice (some ⟨g11, 0, none⟩) 0 0) vs [] (List.replicate l.length [])) := ⟨⟨HBR.out, HB0.out, HL.out, hcl, HP.out.up HBR.out, hc, HMR.out, by simp, fun hn => ⟨Off.old HMR.out.fam (HP.out.at0 hn), fun ad e e2 => by
    have h1 := HP.out.at0 hn ad e
    have h2 := (own_bk HMR.out.out e2).2
    omega⟩⟩⟩
   have HF : Hd (splitF o l (400 * 61 + 61) p (List.replicate l.length []) [] 0 = D) := ⟨by rw [← HD.out]; unfold splitD; rw [HM.out, HA.out, decide_eq_true (by omega), if_neg (by simp)]⟩
   clear hmat hb ha HMR HBR
   go_wp2_with fail
   go_loopg [1, 11, 12] (400 * 61 + 61) (fun g v1 v11 v12 wr => ∃ (A : Option Addr) (c : Nat) (p : List TermD) (vs : List Value) (R : Value) (r : List TermD) (qs : List (List TermD)) (k : Nat), v1 = .slice A p.length c ∧ v11 = R ∧ v12 = .int .i64 k ∧ Hd (Rv b0 L cl l w wr A c p (.slice Vp l.length Vc) R vs r qs) ∧
    Hd (k ≤ 400) ∧ Hd (r.length ≤ 60) ∧ Hd (shortP p) ∧ Hd (∀ q ∈ qs, q.length ≤ 60 ∧ shorts q) ∧ Hd (needF k r ≤ g) ∧ Hd (splitF o l g p qs r k = D))
   case atStart => exact ⟨A, c, p, _, _, [], _, 0, rfl, rfl, rfl, DR, ⟨by omega⟩, ⟨by simp⟩, ⟨HS.out.1⟩, ⟨fun q hq => by rw [(List.mem_replicate.1 hq).2]; exact ⟨by simp, fun s h => by cases h⟩⟩, ⟨Nat.le_refl _⟩, HF⟩
   case round =>
    clear DR HF e1
    obtain ⟨A, c, p, vs, R, r, qs, k, rfl, rfl, rfl, DD, hk, hr, hsp, hq, hg, HF⟩ := hrel
    obtain ⟨n, rfl⟩ : ∃ n, gk = n + 1 := ⟨gk - 1, by have := hg.out; unfold needF at this; omega⟩
    have hR0 := (DD.out.mat.fam.own 0 (_, r) rfl).reads
    dsimp only at hR0
    obtain ⟨RA, rc, rfl, hrc, -, -⟩ := hR0
    by_cases hp0 : p.length = 0
    ·have h0 : ¬ (0 : Int) < p.length := by omega
     have HP0 := Hd.mk hp0
     clear hp0
     go_wp2_with fail
     go_ret3
     have hp1 := List.eq_nil_of_length_eq_zero HP0.out
     subst hp1
     have e : D = (0, qs, r) := by rw [← HF.out]; rfl
     rw [e]
     obtain ⟨Q, qc, hQ, hqc, hQr⟩ := DD.out.mat.reads
     rw [hQ]
     have hRr := (DD.out.mat.fam.own 0 (.slice RA r.length rc, r) rfl).reads
     obtain ⟨A9, c9, h9, h9c, -, h9r⟩ := hRr
     dsimp only at h9
     rw [h9]
     exact ⟨Q, qc, A9, c9, rfl, hqc, h9c, hQr, h9r, DD.out.below⟩
    have h0 : (0 : Int) < p.length := by omega
    have hl0 : 0 < p.length := by omega
    clear hp0
    obtain ⟨t, p', hp⟩ : ∃ t p', p = t :: p' := by
     cases p with
     | nil => simp at hl0
     | cons t p' => exact ⟨t, p', rfl⟩
    have HPP := Hd.mk hp
    clear hp
    obtain ⟨pa, T1, tc1, T2, tc2, t', hA, hab, hti, hrt, q0, q1, q2, q3, q4, q5, q6⟩ := DD.out.rp.get hl0
    subst hA
    have ht' : t' = t := by have := hti.out; rw [HPP.out] at this; injection this with this; exact this.symm
    subst ht'
    have ea : pa.add (0 * 7) = pa := by unfold Addr.add; simp
    rw [ea] at q0 q1 q2 q3 q4 q5 q6
    have HPA := Hd.mk hab
    clear ea hti hab
    have CD := Hd.mk (ref_divides b0 L cl l t'.m wr (DD.out.rl.up DD.out.below) HS.out.2)
    obtain ⟨E, hE⟩ : ∃ E, divD l t'.m = E := ⟨_, rfl⟩
    have HDE := Hd.mk hE
    rw [hE] at CD
    simp only [MonD.v] at CD
    have q4' : wr.cell? ⟨pa.block, pa.off + 3 + 1, none⟩ = some (.int .i64 t'.m.x1) := q4
    have q5' : wr.cell? ⟨pa.block, pa.off + 3 + 2, none⟩ = some (.int .i64 t'.m.x2) := q5
    have q6' : wr.cell? ⟨pa.block, pa.off + 3 + 3, none⟩ = some (.int .i64 t'.m.x3) := q6
    have HQ := Hd.mk (And.intro q0 (And.intro q1 (And.intro q2 (And.intro q3 (And.intro q4 (And.intro q5 q6))))))
    clear hE q0 q1 q2 q4 q5 q6
    go_wp2_with fail
    refine CD.out.mono ?_
    rintro e w2 ⟨rfl, hb2⟩
    have D2 := Hd.mk (DD.out.up hb2)
    have HB2 := Hd.mk hb2
    have HRT := Hd.mk (hrt.out.up hb2)
    clear hb2 CD q3 q4' q5' q6' hrt
    go_upto_region 14 with (fail)
    refine wp_gen (fun W => Below wr.heap.size wr W ∧ Rv b0 L cl l w W (some pa) c p (.slice Vp l.length Vc) (.slice RA r.length rc) vs r qs ∧ Bk W w2.heap.size 66 #[.int .i64 E.2.x0, .int .i64 E.2.x1, .int .i64 E.2.x2, .int .i64 E.2.x3] ∧ RTerm W b0 (.agg #[.bool t'.c.neg, .slice T1 t'.c.num.length tc1, .slice T2 t'.c.den.length tc2, .int .i64 t'.m.x0, .int .i64 t'.m.x1, .int .i64 t'.m.x2, .int .i64 t'.m.x3]) t') ⟨goes HB2.out (below1 _ _), D2.out.up (below1 _ _), Bk.new_ _ _ _, HRT.out.up (below1 _ _)⟩ ?_
    intro W3 hW
    have hgm : w.heap.size ≤ w2.heap.size := D2.out.below.size
    have hgp : pa.block ≠ w2.heap.size := Nat.ne_of_lt (Nat.lt_of_lt_of_le HPA.out HB2.out.size)
    generalize w2.heap.size = gm at hW hgm hgp ⊢
    have HGM := Hd.mk (And.intro hgm hgp)
    have HB3 := Hd.mk hW.out.1
    have D3 := Hd.mk hW.out.2.1
    have K3 := Hd.mk hW.out.2.2.1
    have RT3 := Hd.mk hW.out.2.2.2
    clear hW hgm hgp D2 HB2 HRT DD
    cases hdv : dividesD l t'.m with
    | none =>
      have hE : E = (-1, zeroM) := by rw [← HDE.out]; exact divD_none hdv
      have HE1 : Hd (E.1 = -1) := ⟨by rw [hE]⟩
      have hneg : E.1 < 0 := by rw [hE]; decide
      have HDV := Hd.mk hdv
      clear hE hdv HDE
      obtain ⟨s0, s1, s2, s3, s4, s5, s6⟩ := HQ.out
      have s0 := cell_up s0 HB3.out
      have s1 := cell_up s1 HB3.out
      have s2 := cell_up s2 HB3.out
      have s3 := cell_up s3 HB3.out
      have s4 := cell_up s4 HB3.out
      have s5 := cell_up s5 HB3.out
      have s6 := cell_up s6 HB3.out
      have HT := Hd.mk (rpol_one (t := t') RT3.out 68)
      have hO := Hd.mk ((D3.out.up (below1 W3 (.cells #[.bool t'.c.neg, .slice T1 t'.c.num.length tc1, .slice T2 t'.c.den.length tc2, .int .i64 t'.m.x0, .int .i64 t'.m.x1, .int .i64 t'.m.x2, .int .i64 t'.m.x3] 68))).mat.fam.own 0 _ rfl)
      have D4 := Hd.mk (D3.out.up (below1 W3 (.cells #[.bool t'.c.neg, .slice T1 t'.c.num.length tc1, .slice T2 t'.c.den.length tc2, .int .i64 t'.m.x0, .int .i64 t'.m.x1, .int .i64 t'.m.x2, .int .i64 t'.m.x3] 68)))
      have XL : Hd (r.length + ([t'] : List TermD).length ≤ 1000000) := ⟨by have := hr.out; simp; omega⟩
      go_wp2_with (at_builtin; refine wpList_append_G (us := [t']) rfl _ _ 25 25 rfl Tryz.slPoly Tryz.slPoly rfl rfl rfl hO.out HT.out D4.out.bb XL.out D4.out.below.size ?_)
      intro v' w8 AP
      have D5 := Hd.mk (D4.out.rest AP)
      have HO8 := Hd.mk AP.own
      have hNl : (r ++ [t'] : List TermD).length = r.length + 1 := by simp
      have hFN : splitF o l (n + 1) p qs r k = if 60 ≤ r.length then (90, [], []) else splitF o l n p' qs (r ++ [t']) k := by rw [HPP.out]; exact splitF_rest HDV.out
      obtain ⟨N, hN⟩ : ∃ N, r ++ [t'] = N := ⟨_, rfl⟩
      rw [hN] at D5 HO8 hNl hFN
      have HNl := Hd.mk hNl
      have HFN := Hd.mk (HF.out.symm.trans hFN)
      clear hNl hN AP hO HT K3 D4 D3 XL hFN s0 s1 s2 s3 s4 s5 s6 HQ RT3
      obtain ⟨A8, c8, rfl, hc8, -, -⟩ := HO8.out.reads
      clear HO8
      by_cases h60 : 60 ≤ r.length
      ·have h60' : (60 : Int) < N.length := by have := HNl.out; omega
       have HF2 : Hd (D = (90, [], [])) := ⟨HFN.out.trans (if_pos h60)⟩
       clear h60
       go_wp2_with fail
       go_ret3
       exact SplitPost.bad HF2.out D5.out.below
      ·have h60' : ¬ (60 : Int) < N.length := by have := HNl.out; omega
       have HF2 := Hd.mk (HFN.out.trans (if_neg h60))
       have HR60 : Hd (N.length ≤ 60) := ⟨by have := HNl.out; omega⟩
       clear h60
       have hpl : p.length - 1 = p'.length := by rw [HPP.out]; simp
       have HPL := Hd.mk hpl
       have hpc : p.length ≤ c := D5.out.hc
       have HSP : Hd (shortP p') := ⟨by
        have h1 := hsp.out
        rw [HPP.out] at h1
        exact ⟨by have h2 := h1.1; simp at h2; omega, fun s hs => h1.2 s (List.mem_cons_of_mem _ hs)⟩⟩
       have HG9 : Hd (needF k N ≤ n) := ⟨by
        have h1 := hg.out
        have h2 := HNl.out
        have h3 := HR60.out
        unfold needF at h1 ⊢
        omega⟩
       have D6 := D5.out
       rw [HPP.out] at D6
       have D6 := Hd.mk D6
       clear hpl
       by_cases hc1 : c = 1
       ·have hpn : p' = [] := by
          have h1 := HPL.out
          exact List.eq_nil_of_length_eq_zero (by omega)
        have D7 := Hd.mk (D6.out.tail (ad := pa) (c' := 0) (by rw [hpn]; exact Nat.le_refl _) (fun h => absurd hpn h))
        clear hpn D6
        go_wp2_with fail
        go_roundg n
        case measure => omega
        case rel => exact ⟨some pa, 0, p', vs, _, N, qs, k, by rw [HPL.out], rfl, rfl, D7, hk, HR60, HSP, hq, HG9, ⟨HF2.out.symm⟩⟩
       ·have D7 := Hd.mk (D6.out.tail (ad := pa.add 7) (c' := c - 1) (by have h1 := HPL.out; omega) (fun h => rfl))
        clear D6
        go_wp2_with fail
        go_roundg n
        case measure => omega
        case rel => exact ⟨some (pa.add 7), c - 1, p', vs, _, N, qs, k, by rw [HPL.out]; rfl, rfl, rfl, D7, hk, HR60, HSP, hq, HG9, ⟨HF2.out.symm⟩⟩
    | some x =>
      obtain ⟨i, m⟩ := x
      have hE : E = ((i : Int), m) := by rw [← HDE.out]; exact divD_some hdv
      have HE1 : Hd (E.1 = (i : Int)) := ⟨by rw [hE]⟩
      rw [hE] at K3
      obtain ⟨u, b', hi, hmd⟩ := dividesD_lt hdv
      have HDV := Hd.mk hdv
      have HI := Hd.mk hi
      have hil : i < l.length := (List.getElem?_eq_some_iff.1 hi).1
      have hneg : ¬ (i : Int) < 0 := by omega
      subst hE
      dsimp only at K3 HE1
      have hmay : polMay o (u :: b') = true := List.all_eq_true.1 HA.out _ (List.mem_of_getElem? hi)
      have hinv := Hd.mk (polMay_inv hmay)
      obtain ⟨v, q, hv, hq1, hov⟩ := D3.out.mat.get (j := i) (by rw [D3.out.len]; exact hil)
      obtain ⟨F, hF⟩ : ∃ F, moveD o p (u :: b') q k m = F := ⟨_, rfl⟩
      have HQI := Hd.mk hq1
      have HV := Hd.mk hv
      have HFE := Hd.mk hF
      have HF2 : Hd (D = if F.1 ≠ 0 then (F.1, [], []) else splitF o l n F.2.1 (qs.set i F.2.2) r (k + 1)) := ⟨by
       rw [← HF.out, HPP.out]
       exact splitF_move HDV.out HI.out hq1 (by rw [← HPP.out]; exact hF)⟩
      obtain ⟨Av, cv, rfl, hcv, -, -⟩ := hov.reads
      clear hdv HDE hi hmd hmay hv hq1 hF hov HE1
      by_cases hk4 : 400 ≤ k
      ·have hk4' : (400 : Int) ≤ k := by omega
       have HF3 : Hd (D = (120, [], [])) := ⟨by
        rw [HF2.out, ← HFE.out, HPP.out]
        unfold moveD
        simp only [if_pos hk4]
        rfl⟩
       clear hk4
       go_wp2_with fail
       go_ret3
       exact SplitPost.bad HF3.out D3.out.below
      have hk4' : ¬ (400 : Int) ≤ k := by omega
      have vk : IntKind.i64.wrap ((k : Int) + 1) = ((k + 1 : Nat) : Int) := by rw [IntKind.wrap_i64]; omega
      obtain ⟨la, a, pc, b, rfl, hab, hti, hcell, hpc, hrb⟩ := (D3.out.rl.up D3.out.below).get hil
      have hb' : b = u :: b' := by have := hti.out; rw [HI.out] at this; injection this with this; exact this.symm
      have hbl : 0 < b.length := by rw [hb']; simp
      have HBE := Hd.mk hb'
      obtain ⟨ba, B1, e1, B2, e2, u', rfl, hbb, hui, hru, r0, r1, r2, -, -, -, -⟩ := hrb.out.get hbl
      have hu' : u' = u := by have := hui.out; rw [hb'] at this; injection this with this; exact this.symm
      subst hu'
      have ea : ba.add (0 * 7) = ba := by unfold Addr.add; simp
      rw [ea] at r0 r1 r2
      have hus : u'.c.short := (HS.out.2.2 (u' :: b') (List.mem_of_getElem? HI.out)).2 u' (by simp)
      have CI := Hd.mk (rrat_Inv b0 _ u'.c W3 D3.out.hb0 hru.out.rat hus)
      rw [hinv.out] at CI
      have HIs := Hd.mk (invD_short hus)
      obtain ⟨I, hI⟩ : ∃ I, (invD u'.c).2 = I := ⟨_, rfl⟩
      rw [hI] at CI HIs
      have HIE := Hd.mk hI
      have i1 : (i : Int) < l.length := by omega
      have i3 : (0 : Int) ≤ i := by omega
      have b1 : (0 : Int) < b.length := by omega
      clear hb' ea hui hI hab hbb hus hti
      go_wp2_with fail
      clear hcell r0 r1 r2
      refine CI.out.mono ?_
      rintro e w4 ⟨x, rfl, hx, hb4⟩
      have D4 := Hd.mk (D3.out.up hb4)
      have HB4 := Hd.mk (goes HB3.out hb4)
      have K4 := Hd.mk (K3.out.up hb4)
      have HX := Hd.mk hx
      obtain ⟨XA, xc, XB, xd, rfl, -, -, -, -⟩ := hx
      have HRT4 := Hd.mk (RT3.out.up hb4)
      clear hb4 CI D3 K3 HB3 RT3 hru
      go_upto_region 23 with (fail)
      refine wp_gen (fun W => Below wr.heap.size wr W ∧ Rv b0 (some la) cl l w W (some pa) c p (.slice Vp l.length Vc) (.slice RA r.length rc) vs r qs ∧ Bk W gm 66 #[.int .i64 m.x0, .int .i64 m.x1, .int .i64 m.x2, .int .i64 m.x3] ∧ Bk W w4.heap.size 64 #[.bool I.neg, .slice XA I.num.length xc, .slice XB I.den.length xd] ∧ RRat W b0 (.agg #[.bool I.neg, .slice XA I.num.length xc, .slice XB I.den.length xd]) I ∧
       RTerm W b0 (.agg #[.bool t'.c.neg, .slice T1 t'.c.num.length tc1, .slice T2 t'.c.den.length tc2, .int .i64 t'.m.x0, .int .i64 t'.m.x1, .int .i64 t'.m.x2, .int .i64 t'.m.x3]) t') ⟨goes HB4.out (below1 _ _), D4.out.up (below1 _ _), K4.out.al _, Bk.new_ _ _ _, HX.out.up (below1 _ _), HRT4.out.up (below1 _ _)⟩ ?_
      intro W5 hW
      generalize w4.heap.size = g15 at hW ⊢
      have HB5 := Hd.mk hW.out.1
      have D5 := Hd.mk hW.out.2.1
      have K5 := Hd.mk hW.out.2.2.1
      have C5 := Hd.mk hW.out.2.2.2.1
      have X5 := Hd.mk hW.out.2.2.2.2.1
      have RT5 := Hd.mk hW.out.2.2.2.2.2
      clear hW D4 K4 HB4 HX HRT4
      have hts : t'.c.short := hsp.out.2 t' (by rw [HPP.out]; simp)
      have CM := Hd.mk (fun W (hB : Hd (Below W5.heap.size W5 W)) => rrat_Mul b0 _ _ t'.c I W (Nat.le_trans D5.out.hb0 hB.out.size) (RT5.out.rat.up hB.out) (X5.out.up hB.out) hts HIs.out)
      have HMs := Hd.mk (mulD_short t'.c I)
      obtain ⟨M, hM⟩ : ∃ M, mulD t'.c I = M := ⟨_, rfl⟩
      rw [hM] at CM HMs
      have HME := Hd.mk hM
      obtain ⟨c0, c1, c2⟩ := C5.out.three
      obtain ⟨s0, s1, s2, -, -, -, -⟩ := HQ.out
      have s0 := cell_up s0 HB5.out
      have s1 := cell_up s1 HB5.out
      have s2 := cell_up s2 HB5.out
      have SO := Hd.mk (fun W (hB : Below W5.heap.size W5 W) => And.intro (Hd.mk hB) (And.intro (cell_up s0 hB) (And.intro (cell_up s1 hB) (And.intro (cell_up s2 hB) (And.intro (cell_up c0 hB) (And.intro (cell_up c1 hB) (cell_up c2 hB)))))))
      clear hM hts HQ
      go_cut [17, 18] (fun v17 v18 wx => ∃ g17 YA yc YB yd, v17 = .pointer (some ⟨g17, 0, none⟩) ∧ v18 = .int .i64 M.1 ∧ Hd (Below W5.heap.size W5 wx) ∧ Hd (Bk wx g17 64 #[.bool M.2.neg, .slice YA M.2.num.length yc, .slice YB M.2.den.length yd]) ∧ Hd (RRat wx b0 (.agg #[.bool M.2.neg, .slice YA M.2.num.length yc, .slice YB M.2.den.length yd]) M.2))
      case first =>
       go_region_held3 (fun w' => Hd (Below W5.heap.size W5 w') ∧ w'.cell? pa = some (.bool t'.c.neg) ∧ w'.cell? ⟨pa.block, pa.off + 1, none⟩ = some (.slice T1 t'.c.num.length tc1) ∧ w'.cell? ⟨pa.block, pa.off + 2, none⟩ = some (.slice T2 t'.c.den.length tc2) ∧
           w'.cell? ⟨g15, 0, none⟩ = some (.bool I.neg) ∧ w'.cell? ⟨g15, 1, none⟩ = some (.slice XA I.num.length xc) ∧ w'.cell? ⟨g15, 2, none⟩ = some (.slice XB I.den.length xd))
        (first
         | with_reducible exact SO.out _ (.refl _ _)
         | with_reducible exact SO.out _ (Below.refl _ _).drew
         | with_reducible exact SO.out _ ((Below.refl _ _).drew.alloc (Nat.le_refl _) _)
         | with_reducible exact SO.out _ ((Below.refl _ _).alloc (Nat.le_refl _) _).drew
         | with_reducible exact SO.out _ hB6
         | with_reducible exact SO.out _ (hB6.alloc hB6.size _)
         | with_reducible exact SO.out _ (((hB6.setCell (Nat.le_refl _) _).setCell (Nat.le_refl _) _).setCell (Nat.le_refl _) _)
         | with_reducible exact SO.out _ ((((hB6.alloc hB6.size _).setCell hB6.size _).setCell hB6.size _).setCell hB6.size _)
         | fail)
        (first
         | (go_at_call 179; have hB := ‹Hd (Below W5.heap.size W5 _) ∧ _›.1; with_reducible refine (CM.out ((W5.alloc (Obj.cells #[.bool false, .slice none 0 0, .slice none 0 0] 64)).drew) hB).mono ?_; rintro e w6 ⟨x, rfl, hx, hb⟩
            have hB6 := hB.out.trans (hb.mono hB.out.size)
            have HX := Hd.mk hx
            have hk := Hd.mk ((Bk.new_ W5 64 #[.bool false, .slice none 0 0, .slice none 0 0]).d1.up hb)
            obtain ⟨p6, p7, p8⟩ := hk.out.three
            have fz := fun i => hk.out.froz i
            obtain ⟨YA, yc, YB, yd, rfl, _, _, _, _⟩ := hx)
         | (go_at_call 179; have hB := ‹Hd (Below W5.heap.size W5 _) ∧ _›.1; with_reducible refine (CM.out _ hB).mono ?_; rintro e w6 ⟨x, rfl, hx, hb⟩
            have hB6 := hB.out.trans (hb.mono hB.out.size)
            have HX := Hd.mk hx
            obtain ⟨YA, yc, YB, yd, rfl, _, _, _, _⟩ := hx))
       all_goals
        have hB7 := ‹Hd (Below W5.heap.size W5 _) ∧ _›.1
        go_wp2_with fail
        go_meet
        first
         | with_reducible exact ⟨_, YA, yc, YB, yd, rfl, rfl, hB7, ⟨Bk.new_ _ _ _⟩, ⟨HX.out.up ((Below.refl _ _).alloc (Nat.le_refl _) _)⟩⟩
         | with_reducible exact ⟨_, YA, yc, YB, yd, rfl, rfl, hB7, ⟨hk.out.set3 _ _ _⟩, ⟨RRat.set3 HX.out hk.out D5.out.hb0 _ _ _⟩⟩
         | fail
      case rest =>
       obtain ⟨g17, YA, yc, YB, yd, rfl, rfl, HB7, C7, Y7⟩ := hcut
       have D7 := Hd.mk (D5.out.up HB7.out)
       have K7 := Hd.mk (K5.out.up HB7.out)
       clear SO CM c0 c1 c2 s0 s1 s2 D5 K5 C5 X5 RT5
       have HE := Hd.mk (HFE.out.symm.trans (moveD_eq (o := o) (q := q) (m := m) HPP.out rfl HIE.out HME.out hk4))
       rw [← HBE.out] at HE
       by_cases hm1 : M.1 = 0
       ·have e1 : (M.1 != 0) = false := by rw [hm1]; rfl
        rw [if_neg (by rw [hm1]; simp)] at HE
        clear hm1
        obtain ⟨G, cV, hV, -, -, -, -⟩ := D7.out.mat.form (by rw [D7.out.len]; omega)
        injection hV with h1 h2 h3
        subst h1 h3
        have hvl : vs.length = l.length := h2.symm
        have HVL := Hd.mk hvl
        clear h2 hvl
        go_wp2_with fail
        have HSW : Hd ((wc.drew.cell? ⟨G, i, none⟩ = some (.slice Av q.length cv)) ∧ (wc.drew.cell? ⟨g17, 0, none⟩ = some (.bool M.2.neg) ∧ wc.drew.cell? ⟨g17, 1, none⟩ = some (.slice YA M.2.num.length yc) ∧ wc.drew.cell? ⟨g17, 2, none⟩ = some (.slice YB M.2.den.length yd)) ∧ wc.drew.cell? ⟨gm, 0, none⟩ = some (.int .i64 m.x0) ∧ wc.drew.cell? ⟨gm, 1, none⟩ = some (.int .i64 m.x1) ∧ wc.drew.cell? ⟨gm, 2, none⟩ = some (.int .i64 m.x2) ∧ wc.drew.cell? ⟨gm, 3, none⟩ = some (.int .i64 m.x3)) := ⟨D7.out.mat.cellV HV.out, C7.out.three, K7.out.four⟩
        have D8 := Hd.mk (D7.out.up (Below.refl _ _).drew)
        have K8 : Hd (Bk wc.drew gm 66 #[.int .i64 m.x0, .int .i64 m.x1, .int .i64 m.x2, .int .i64 m.x3]) := ⟨K7.out⟩
        have C8 : Hd (Bk wc.drew g17 64 #[.bool M.2.neg, .slice YA M.2.num.length yc, .slice YB M.2.den.length yd]) := ⟨C7.out⟩
        have Y8 := Hd.mk (Y7.out.up (Below.refl _ _).drew)
        refine wp_region_head 9 11 (fun W => (W.cell? ⟨G, i, none⟩ = some (.slice Av q.length cv)) ∧ (W.cell? ⟨g17, 0, none⟩ = some (.bool M.2.neg) ∧ W.cell? ⟨g17, 1, none⟩ = some (.slice YA M.2.num.length yc) ∧ W.cell? ⟨g17, 2, none⟩ = some (.slice YB M.2.den.length yd)) ∧ W.cell? ⟨gm, 0, none⟩ = some (.int .i64 m.x0) ∧ W.cell? ⟨gm, 1, none⟩ = some (.int .i64 m.x1) ∧ W.cell? ⟨gm, 2, none⟩ = some (.int .i64 m.x2) ∧ W.cell? ⟨gm, 3, none⟩ = some (.int .i64 m.x3)) (by kernel_rfl) (by kernel_rfl) (fun c a d v w h => by cases d <;> exact h) HSW.out ?_
        generalize wc.drew = wd at D8 K8 C8 Y8 HSW ⊢
        clear D7 K7 C7 Y7
        simp only [List.take_succ_cons, List.take_zero, List.drop_succ_cons, List.drop_zero]
        iterate 9 (refine ⟨?_, Or.inl ⟨by rfl, ?_⟩, ?_⟩; rotate_left; (intro W hW; obtain ⟨gi, ⟨c0, c1, c2⟩, m0, m1, m2, m3⟩ := hW; go_simp; try with_reducible rfl); simp only [Act.put, List.setIfInBounds_toArray, List.set_cons_zero, List.set_cons_succ])
        refine wpHead_nil ?_
        change wpTail _ _ _ _ _ _ _ _ _
        obtain ⟨z0, ⟨z4, z5, z6⟩, z7, z8, z9, z10⟩ := HSW.out
        refine wpTail_step (fun K hK => ?_)
        go_simp
        refine hK _ _ (fun _ => ⟨cell_up z0 (below1 _ _), ⟨cell_up z4 (below1 _ _), cell_up z5 (below1 _ _), cell_up z6 (below1 _ _)⟩, cell_up z7 (below1 _ _), cell_up z8 (below1 _ _), cell_up z9 (below1 _ _), cell_up z10 (below1 _ _)⟩) ?_
        clear hK K z0 z4 z5 z6 z7 z8 z9 z10
        have HT := Hd.mk (rpol_one (t := ⟨M.2, m⟩) (rterm_of Y8.out m) 68)
        dsimp only at HT
        obtain ⟨wA, hwA⟩ : ∃ wA, wd.alloc (Obj.cells #[.bool M.2.neg, .slice YA M.2.num.length yc, .slice YB M.2.den.length yd, .int .i64 m.x0, .int .i64 m.x1, .int .i64 m.x2, .int .i64 m.x3] 68) = wA := ⟨_, rfl⟩
        have HBA : Hd (Below wd.heap.size wd wA) := ⟨by rw [← hwA]; exact below1 _ _⟩
        rw [hwA] at HT ⊢
        clear hwA
        have D9 := Hd.mk (D8.out.up HBA.out)
        have K9 := Hd.mk (K8.out.up HBA.out)
        have C9 := Hd.mk (C8.out.up HBA.out)
        have Y9 := Hd.mk (Y8.out.up HBA.out)
        have hO := Hd.mk (D9.out.mat.fam.own (i + 1) _ (D9.out.mat.zip_at HV.out HQI.out))
        have hq60 : q.length ≤ 60 := (hq.out q (List.mem_of_getElem? HQI.out)).1
        have XL : Hd (q.length + ([⟨M.2, m⟩] : List TermD).length ≤ 1000000) := ⟨by simp; omega⟩
        refine wpTail_step (fun K hK => ?_)
        refine step_append_G (us := [⟨M.2, m⟩]) rfl _ _ 25 rfl Tryz.slPoly rfl rfl rfl hO.out HT.out D9.out.bb XL.out D9.out.below.size ?_
        intro v' w8 AP
        obtain ⟨⟨Gcs, hGk⟩, hbG⟩ := own_bk D9.out.mat.out (gp := G) rfl
        have HGk := Hd.mk hGk
        have z0 := D9.out.mat.cellV HV.out
        obtain ⟨z4, z5, z6⟩ := C9.out.three
        obtain ⟨z7, z8, z9, z10⟩ := K9.out.four
        refine hK _ _ (fun _ => ⟨cell_grown z0 AP.grow (hO.out.ne HGk.out (by decide)), ⟨cell_grown z4 AP.grow (hO.out.ne C9.out (by decide)), cell_grown z5 AP.grow (hO.out.ne C9.out (by decide)), cell_grown z6 AP.grow (hO.out.ne C9.out (by decide))⟩, cell_grown z7 AP.grow (hO.out.ne K9.out (by decide)), cell_grown z8 AP.grow (hO.out.ne K9.out (by decide)), cell_grown z9 AP.grow (hO.out.ne K9.out (by decide)), cell_grown z10 AP.grow (hO.out.ne K9.out (by decide))⟩) ?_
        have gi8 : w8.cell? ⟨G, i, none⟩ = some (.slice Av q.length cv) := cell_grown z0 AP.grow (hO.out.ne HGk.out (by decide))
        have HG8 := Hd.mk (HGk.out.grown AP.grow (hO.out.ne HGk.out (by decide)))
        clear hK K z0 z4 z5 z6 z7 z8 z9 z10 hGk
        have D10 := Hd.mk (D9.out.quot rfl HV.out HQI.out AP)
        have K10 : Hd (Bk (w8.setCell ⟨G, i, none⟩ v') gm 66 #[.int .i64 m.x0, .int .i64 m.x1, .int .i64 m.x2, .int .i64 m.x3]) := ⟨(K9.out.grown AP.grow (hO.out.ne K9.out (by decide))).far (p := ⟨G, i, none⟩) (fun e => Bk.ne_ (K9.out.grown AP.grow (hO.out.ne K9.out (by decide))) HG8.out (by decide) e) _⟩
        have C10 : Hd (Bk (w8.setCell ⟨G, i, none⟩ v') g17 64 #[.bool M.2.neg, .slice YA M.2.num.length yc, .slice YB M.2.den.length yd]) := ⟨(C9.out.grown AP.grow (hO.out.ne C9.out (by decide))).far (p := ⟨G, i, none⟩) (fun e => Bk.ne_ (C9.out.grown AP.grow (hO.out.ne C9.out (by decide))) HG8.out (by decide) e) _⟩
        have hb0G : b0 ≤ G := Nat.le_trans D9.out.bb hbG
        have Y10 := Hd.mk ((Y9.out.grown AP.grow (hO.out.rok D9.out.bb)).grown (set_grown w8 ⟨G, i, none⟩ v') (fun g e => by injection e with e; subst e; exact ⟨hb0G, _, _, HG8.out, by decide⟩))
        have fz := HG8.out.froz i
        have HO8 := Hd.mk AP.own
        clear AP hb0G hbG
        have hNl : (q ++ [⟨M.2, m⟩] : List TermD).length = q.length + 1 := by simp
        obtain ⟨N, hN⟩ : ∃ N, q ++ [⟨M.2, m⟩] = N := ⟨_, rfl⟩
        rw [hN] at D10 HO8 HE hNl
        have HNl := Hd.mk hNl
        clear hN hNl
        obtain ⟨A8, c8, rfl, hc8, -, -⟩ := HO8.out.reads
        refine wpTail_step (fun K hK => ?_)
        go_simp
        refine hK _ _ (fun h => absurd h (by decide)) ?_
        clear hK K
        refine wpTail_step (fun K hK => ?_)
        go_simp
        refine hK _ _ (fun h => absurd h (by decide)) ?_
        clear hK K fz gi8
        refine wpTail_nil ?_
        generalize w8.setCell ⟨G, i, none⟩ (.slice A8 N.length c8) = w9 at D10 K10 C10 Y10 ⊢
        have HV9 : Hd ((vs.set i (.slice A8 N.length c8))[i]? = some (.slice A8 N.length c8)) := ⟨by rw [List.getElem?_set_self']; rw [HV.out]; rfl⟩
        clear D8 K8 C8 Y8 D9 K9 C9 Y9 HSW hO HT HO8 HG8 HGk HBA
        have gi := D10.out.mat.cellV HV9.out
        by_cases h60 : 60 ≤ q.length
        ·have h60' : (60 : Int) < N.length := by have := HNl.out; omega
         have HE2 : Hd (F = (90, [], [])) := ⟨HE.out.trans (if_pos h60)⟩
         have HF3 : Hd (D = (90, [], [])) := ⟨by rw [HF2.out, HE2.out]; exact if_pos (by decide)⟩
         clear h60
         go_wp2_with fail
         go_ret3
         exact SplitPost.bad HF3.out D10.out.below
        have h60' : ¬ (60 : Int) < N.length := by have := HNl.out; omega
        rw [if_neg h60] at HE
        clear h60
        go_wp2_with fail
        clear gi
        obtain ⟨c0, c1, c2⟩ := C10.out.three
        obtain ⟨m0, m1, m2, m3⟩ := K10.out.four
        obtain ⟨la', a2, pc2, b2, hL2, -, hti2, hcell, hpc2, hrt2⟩ := (D10.out.rl.up D10.out.below).get hil
        injection hL2 with hL2
        subst hL2
        have hb2 : b2 = b := by have := hti2.out; rw [HI.out, ← HBE.out] at this; injection this with this; exact this.symm
        subst hb2
        have hbs : shortP b2 := HS.out.2.2 b2 (List.mem_of_getElem? hti2.out)
        have CN := Hd.mk (fun W (hB : Hd (Below w9.heap.size w9 W)) => rrat_Neg b0 _ M.2 W (Nat.le_trans D10.out.hb0 hB.out.size) (Y10.out.up hB.out))
        have hXs : (negD M.2).short := by rw [negD_eq]; exact HMs.out
        obtain ⟨X, hX⟩ : ∃ X, negD M.2 = X := ⟨_, rfl⟩
        rw [hX] at CN HE hXs
        have CT := Hd.mk (fun W v (hB : Hd (Below w9.heap.size w9 W)) (hv : RTerm W b0 v ⟨X, m⟩) => rpol_Times b0 o a2 pc2 b2 v ⟨X, m⟩ W (Nat.le_trans D10.out.hb0 hB.out.size) (hrt2.out.up hB.out) hpc2 hbs hv hXs)
        have HTs := Hd.mk (polTimes_short (o := o) (p := b2) ⟨X, m⟩ hbs)
        obtain ⟨T, hT⟩ : ∃ T, polTimes o b2 ⟨X, m⟩ = T := ⟨_, rfl⟩
        rw [hT] at CT HE HTs
        have SO := Hd.mk (fun W (hB : Below w9.heap.size w9 W) => And.intro (Hd.mk hB) (And.intro (cell_up hcell hB) (And.intro (cell_up c0 hB) (And.intro (cell_up c1 hB) (And.intro (cell_up c2 hB) (And.intro (cell_up m0 hB) (And.intro (cell_up m1 hB) (And.intro (cell_up m2 hB) (cell_up m3 hB)))))))))
        clear hX hT hti2 hrt2 hXs hbs
        go_region_held3 (fun W => Hd (Below w9.heap.size w9 W) ∧ W.cell? (la.add i) = some (.slice a2 b2.length pc2) ∧ W.cell? ⟨g17, 0, none⟩ = some (.bool M.2.neg) ∧ W.cell? ⟨g17, 1, none⟩ = some (.slice YA M.2.num.length yc) ∧ W.cell? ⟨g17, 2, none⟩ = some (.slice YB M.2.den.length yd) ∧ W.cell? ⟨gm, 0, none⟩ = some (.int .i64 m.x0) ∧ W.cell? ⟨gm, 1, none⟩ = some (.int .i64 m.x1) ∧ W.cell? ⟨gm, 2, none⟩ = some (.int .i64 m.x2) ∧ W.cell? ⟨gm, 3, none⟩ = some (.int .i64 m.x3))
         (first
          | with_reducible exact SO.out _ HB11.out
          | with_reducible exact SO.out _ HB10.out
          | with_reducible exact SO.out _ (Below.refl _ _)
          | with_reducible exact SO.out _ (Below.refl _ _).drew
          | fail)
         (first
          | (go_at_call 180; with_reducible refine (CN.out _ ⟨(Below.refl _ _).drew⟩).mono ?_; rintro e w10 ⟨x, rfl, hx, hb⟩
             have HB10 : Hd (Below w9.heap.size w9 w10) := ⟨(Below.refl w9.heap.size w9).drew.trans hb⟩
             have HX := Hd.mk hx
             obtain ⟨XA', xc', XB', xd', rfl, -, -, -, -⟩ := hx)
          | (go_at_call 119; with_reducible refine (CT.out _ _ HB10 (rterm_of HX.out m)).mono ?_; rintro e w11 ⟨TA, tcc, rfl, htc, hrt, hb⟩
             have HB11 : Hd (Below w9.heap.size w9 w11) := ⟨goes HB10.out hb⟩
             have HT11 := Hd.mk hrt))
        all_goals
         have D11 := Hd.mk (D10.out.up HB11.out)
         clear SO CN CT hcell c0 c1 c2 m0 m1 m2 m3 D10 K10 C10 Y10
         by_cases ht1 : T.1 = 0
         ·have e2 : (T.1 != 0) = false := by rw [ht1]; rfl
          rw [if_neg (by rw [ht1]; simp)] at HE
          clear ht1
          have hps2 : shortPs [p, T.2] := ⟨by simp, fun z hz => by
           simp only [List.mem_cons, List.not_mem_nil, or_false] at hz
           rcases hz with rfl | rfl
           ·exact hsp.out
           ·exact HTs.out⟩
          obtain ⟨Y, hY⟩ : ∃ Y, polAdd o [p, T.2] = Y := ⟨_, rfl⟩
          have CA := Hd.mk (radd_new hps2 hY D11.out.hb0 D11.out.rp HT11.out D11.out.hc htc)
          rw [hY] at HE
          clear hY hps2
          go_wp2_with fail
          refine CA.out.mono ?_
          rintro e w12 ⟨A12, c12, rfl, hc12, hr12, hb12, hf12⟩
          have D12 := Hd.mk ((D11.out.up hb12).setp hr12 hc12 (fun _ => D11.out.fresh hf12))
          clear hr12 hb12 hf12 CA D11 HT11
          by_cases hy : Y.1 = 0
          ·have e3 : (Y.1 != 0) = false := by rw [hy]; rfl
           have HE2 : Hd (F = (0, Y.2, N)) := ⟨HE.out.trans (if_neg (by rw [hy]; simp))⟩
           have HF3 : Hd (D = splitF o l n Y.2 (qs.set i N) r (k + 1)) := ⟨by rw [HF2.out, HE2.out]; exact if_neg (by simp)⟩
           have hsm := moveD_shorts (o := o) (k := k) (m := m) hsp.out (HS.out.2.2 _ (List.mem_of_getElem? HI.out)) ⟨Nat.le_trans (hq.out q (List.mem_of_getElem? HQI.out)).1 (by omega), (hq.out q (List.mem_of_getElem? HQI.out)).2⟩
           rw [HFE.out, HE2.out] at hsm
           have HSM := Hd.mk hsm
           have HN60 : Hd (N.length ≤ 60) := ⟨by have := HNl.out; omega⟩
           clear hy hsm
           go_wp2_with fail
           go_roundg n
           case measure => omega
           case rel =>
            refine ⟨A12, c12, Y.2, _, _, r, qs.set i N, k + 1, rfl, rfl, by simp, D12, ⟨by omega⟩, hr, ⟨HSM.out.1⟩, ⟨?_⟩, ⟨?_⟩, ⟨HF3.out.symm⟩⟩
            ·intro q' hq'
             rcases List.mem_or_eq_of_mem_set hq' with h | h
             ·exact hq.out _ h
             ·rw [h]
              exact ⟨HN60.out, HSM.out.2⟩
            ·have := hg.out
             unfold needF at this ⊢
             omega
          ·have e3 : (Y.1 != 0) = true := by rw [bne_iff_ne]; exact hy
           have HE2 : Hd (F = (Y.1, [], [])) := ⟨HE.out.trans (if_pos hy)⟩
           have HF3 : Hd (D = (Y.1, [], [])) := ⟨by rw [HF2.out, HE2.out]; exact if_pos hy⟩
           clear hy
           go_wp2_with fail
           go_ret3
           exact SplitPost.bad HF3.out D12.out.below
         ·have e2 : (T.1 != 0) = true := by rw [bne_iff_ne]; exact ht1
          have HE2 : Hd (F = (T.1, [], [])) := ⟨HE.out.trans (if_pos ht1)⟩
          have HF3 : Hd (D = (T.1, [], [])) := ⟨by rw [HF2.out, HE2.out]; exact if_pos ht1⟩
          clear ht1
          go_wp2_with fail
          go_ret3
          exact SplitPost.bad HF3.out D11.out.below
       ·have e1 : (M.1 != 0) = true := by rw [bne_iff_ne]; exact hm1
        have HE2 : Hd (F = (M.1, [], [])) := ⟨HE.out.trans (if_pos hm1)⟩
        have HF3 : Hd (D = (M.1, [], [])) := ⟨by rw [HF2.out, HE2.out]; exact if_pos hm1⟩
        clear hm1
        go_wp2_with fail
        go_ret3
        exact SplitPost.bad HF3.out D7.out.below
end Go.Proofs.YtgjkgkgieeoalaaGreat
