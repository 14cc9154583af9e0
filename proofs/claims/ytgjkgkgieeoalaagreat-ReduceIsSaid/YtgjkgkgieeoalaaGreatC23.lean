/- Parts of the proof, joined: each theorem says what it shows. -/
import Derived.Test.YtgjkgkgieeoalaaGreatC22
import Derived.Test.YtgjkgkgieeoalaaGreatC21
set_option linter.unusedVariables false
set_option linter.unusedSimpArgs false
set_option maxHeartbeats 24000000
set_option maxRecDepth 100000
namespace Go.Proofs.YtgjkgkgieeoalaaGreat
open Go.RowKit
def timesL (t : TermD) : List TermD → Int × List TermD
 | [] => (0, [])
 | s :: r => if (mulD s.c t.c).1 ≠ 0 then ((mulD s.c t.c).1, []) else if (monMul s.m t.m).1 ≠ 0 then ((monMul s.m t.m).1, [])
   else if (timesL t r).1 ≠ 0 then ((timesL t r).1, []) else (0, ⟨(mulD s.c t.c).2, (monMul s.m t.m).2⟩ :: (timesL t r).2)
def polTimes (o : Int) (p : List TermD) (t : TermD) : Int × List TermD :=
 if (polMay o p && right t) = false then (1, []) else if t.c.num.length = 0 then (0, []) else timesL t p
def appD (ds : List TermD) (q : Int × List TermD) : Int × List TermD := if q.1 ≠ 0 then (q.1, []) else (0, ds ++ q.2)
theorem timesL_ok (t : TermD) (p : List TermD) : (timesL t p).1 ≠ 0 → (timesL t p).2 = [] := by
 cases p with
 | nil => intro h; exact absurd rfl h
 | cons s r =>
   unfold timesL
   split
   ·intro _; rfl
   ·split
    ·intro _; rfl
    ·split
     ·intro _; rfl
     ·intro h; exact absurd rfl h
theorem appD_nil (t : TermD) (p : List TermD) : appD [] (timesL t p) = timesL t p := by
 unfold appD
 by_cases h : (timesL t p).1 ≠ 0
 ·rw [if_pos h]; exact Prod.ext rfl (timesL_ok t p h).symm
 ·rw [if_neg h]; exact Prod.ext (by simpa using (Classical.not_not.1 h).symm) rfl
theorem appD_step {t s : TermD} {ds r : List TermD} (h1 : (mulD s.c t.c).1 = 0) (h2 : (monMul s.m t.m).1 = 0) : appD ds (timesL t (s :: r)) = appD (ds ++ [⟨(mulD s.c t.c).2, (monMul s.m t.m).2⟩]) (timesL t r) := by
 conv => lhs; unfold timesL
 rw [if_neg (by rw [h1]; simp), if_neg (by rw [h2]; simp)]
 unfold appD
 by_cases h : (timesL t r).1 ≠ 0
 ·rw [if_pos h]
  simp [h]
 ·rw [if_neg h]
  simp [h]
def zc7 : List Value := [.bool false, .slice none 0 0, .slice none 0 0, .int .i64 0, .int .i64 0, .int .i64 0, .int .i64 0]
def zrest (m : Nat) : List Value := (List.replicate m zc7).flatten
theorem zrest_succ (m : Nat) : zrest (m + 1) = zc7 ++ zrest m := by simp [zrest, List.replicate_succ]
theorem zrest_len (m : Nat) : (zrest m).length = m * 7 := by
 induction m with
 | zero => rfl
 | succ m ih => rw [zrest_succ, List.length_append, ih, show zc7.length = 7 from rfl]; omega
theorem zrest_get : ∀ (m j : Nat), j < m * 7 → (zrest m)[j]? = zc7[j % 7]?
 | 0, j, h => by omega
 | m + 1, j, h => by
   rw [zrest_succ]
   rcases Nat.lt_or_ge j 7 with h7 | h7
   ·rw [List.getElem?_append_left (by exact h7), Nat.mod_eq_of_lt h7]
   ·rw [List.getElem?_append_right (by exact h7), show zc7.length = 7 from rfl, zrest_get m (j - 7) (by omega), show j % 7 = (j - 7) % 7 by omega]
theorem made_terms (n : Nat) : (madeCells (Value.agg #[.bool false, .slice none 0 0, .slice none 0 0, .int .i64 0, .int .i64 0, .int .i64 0, .int .i64 0]).cells (n * 7)).toList = zrest n := by
 apply List.ext_getElem?
 intro j
 rcases Nat.lt_or_ge j (n * 7) with h | h
 ·rw [zrest_get n j h]
  have e7 : j % 7 < 7 := Nat.mod_lt _ (by decide)
  have : (madeCells (Value.agg #[.bool false, .slice none 0 0, .slice none 0 0, .int .i64 0, .int .i64 0, .int .i64 0, .int .i64 0]).cells (n * 7)).toList[j]? = some ((zc7.toArray)[j % 7]!) := by
   unfold madeCells
   simp [h, zc7, Value.cells]
  rw [this]
  generalize j % 7 = k at e7
  match k, e7 with
  | 0, _ => rfl
  | 1, _ => rfl
  | 2, _ => rfl
  | 3, _ => rfl
  | 4, _ => rfl
  | 5, _ => rfl
  | 6, _ => rfl
 ·rw [List.getElem?_eq_none (by rw [Array.length_toList, size_madeCells]; exact h), List.getElem?_eq_none (by rw [zrest_len]; exact h)]
structure Tm (b0 g gb n c i : Nat) (w0 w : World) (tc : Array Value) (ds : List TermD) (done zc rest : List Value) : Prop where
 below : Below w0.heap.size w0 w
 s0 : b0 ≤ w0.heap.size
 box : Bk w gb 68 tc
 s2 : w0.heap.size ≤ gb
 ne : gb ≠ g
 own : w.ownsRow w0.heap.size 68 7 (.slice (some ⟨g, 0, none⟩) n c) n (done ++ (zc ++ rest))
 dl : done.length = i * 7
 tcs : TCs w b0 ds done
section
variable {b0 g gb n c i : Nat} {w0 w w' : World} {tc : Array Value} {ds : List TermD} {done zc rest : List Value}
theorem Tm.up (h : Tm b0 g gb n c i w0 w tc ds done zc rest) (hb : Below w.heap.size w w') : Tm b0 g gb n c i w0 w' tc ds done zc rest :=
 ⟨h.below.trans (hb.mono h.below.size), h.s0, h.box.up hb, h.s2, h.ne, own_below h.own hb, h.dl, h.tcs.up hb⟩
theorem Tm.bk (h : Tm b0 g gb n c i w0 w tc ds done zc rest) : (∃ cs, Bk w g 68 cs) ∧ w0.heap.size ≤ g := own_bk h.own rfl
theorem Tm.row (h : Tm b0 g gb n c i w0 w tc ds done zc rest) : ∀ g', some g = some g' → b0 ≤ g' ∧ ∃ t cs, Bk w g' t cs ∧ t ≠ 112 := fun g' e => own_row_ok h.own h.s0 (by decide) g' (by rw [← e]; rfl)
theorem Tm.setc (h : Tm b0 g gb n c i w0 w tc ds done zc rest) (k : Nat) (hk : k < zc.length) (u : Value) : Tm b0 g gb n c i w0 (w.setCell ⟨g, i * 7 + k, none⟩ u) tc ds done (zc.set k u) rest := by
 have h1 := (World.ownsRow.stored h.own (i * 7 + k) u).1
 refine ⟨h.below.setCell h.bk.2 u, h.s0, h.box.far h.ne u, h.s2, h.ne, ?_, h.dl, h.tcs.grown (set_grown w ⟨g, i * 7 + k, none⟩ u) h.row⟩
 rw [List.set_append_right _ _ (by rw [h.dl]; omega), h.dl, show i * 7 + k - i * 7 = k by omega, List.set_append_left _ _ hk] at h1
 exact h1
theorem Tm.cell (h : Tm b0 g gb n c i w0 w tc ds done zc rest) (k : Nat) (hk : k < zc.length) (hi : i * 7 + k < n * 7) : w.cell? ⟨g, i * 7 + k, none⟩ = zc[k]? := by
 rw [World.ownsRow.cellAt h.own _ hi, List.getElem?_append_right (by rw [h.dl]; omega), h.dl, show i * 7 + k - i * 7 = k by omega, List.getElem?_append_left hk]
theorem Tm.froz (h : Tm b0 g gb n c i w0 w tc ds done zc rest) (j : Nat) : w.frozen? ⟨g, j, none⟩ = false := World.ownsRow.frozenAt h.own j
theorem Tm.done_ (h : Tm b0 g gb n c i w0 w tc ds done zc rest) {s : TermD} (hs : TC w b0 s zc) {rest1 rest2 : List Value} (hr : rest = rest1 ++ rest2) : Tm b0 g gb n c (i + 1) w0 w tc (ds ++ [s]) (done ++ zc) rest1 rest2 := by
 refine ⟨h.below, h.s0, h.box, h.s2, h.ne, ?_, ?_, ?_⟩
 ·have := h.own
  rw [hr] at this
  simpa using this
 ·rw [List.length_append, h.dl, hs.len]; omega
 ·have := h.tcs.app (.cons hs .nil)
  simpa using this
end
def zeroTermV : Value := .agg #[.bool false, .slice none 0 0, .slice none 0 0, .int .i64 0, .int .i64 0, .int .i64 0, .int .i64 0]
def zrow (n : Nat) : Array Value := madeCells zeroTermV.cells (n * 7)
theorem mkTerms (n : Nat) (N : Int) (hN : N = n) (h9 : n ≤ 1000000) (w : World) :
    (Instr.makeSlice 25 (.int .i64 N) (.int .i64 N)).run Tryz.prog w = .ok (.slice (some ⟨w.heap.size, 0, none⟩) n n) (w.alloc (.cells (zrow n) 68)) := by
 subst hN
 obtain ⟨i0, hi, hz0, hz1, hz2⟩ := info_split Tryz.infTerm
 have hr := run_make (P := Tryz.prog) w 25 68 i0 _ Tryz.slPoly hi hz0 .i64 .i64 n n (by omega) (Int.le_refl _) (by rw [hz2]; omega) (by omega)
 simp only [Int.toNat_natCast, hz1] at hr
 exact hr
theorem own_made (n : Nat) (h9 : n ≤ 1000000) (w : World) (base : Nat) (hb : base ≤ w.heap.size) : (w.alloc (.cells (zrow n) 68)).ownsRow base 68 7 (.slice (some ⟨w.heap.size, 0, none⟩) n n) n (zrest n) := by
 have := World.ownsRow_lit (e := 68) (size := 7) w (zrow n) n hb (by unfold maxLen; omega) (size_madeCells _ _)
 rw [show (zrow n).toList = zrest n from made_terms n] at this
 exact this
theorem poly_TimesF (b0 : Nat) (order : Int) (A : Option Addr) (c : Nat) (ps : List TermD) (v : Value) (t : TermD) (w : World) (hb0 : b0 ≤ w.heap.size) (h : RPol w b0 A ps) (hc : ps.length ≤ c) (hs : shortP ps) (ht : RTerm w b0 v t) (hts : t.c.short) :
    Calls Tryz.prog 98 #[.int .i64 order, .slice A ps.length c, v] w fun e w' => ∃ A' c', e = .returned (.tuple #[.slice A' (polTimes order ps t).2.length c', .int .i64 (polTimes order ps t).1]) ∧
     (polTimes order ps t).2.length ≤ c' ∧ RPol w' b0 A' (polTimes order ps t).2 ∧ Below w.heap.size w w' ∧ Fr w.heap.size A' := by
 have HP := Hd.mk h
 have HS := Hd.mk hs
 have HB0 := Hd.mk hb0
 have HT := Hd.mk ht
 have HTS := Hd.mk hts
 have hl := hs.1
 obtain ⟨T1, tc1, T2, tc2, rfl, g1, g2, g3, g4⟩ := ht
 have HRR : Hd (RRat w b0 (.agg #[.bool t.c.neg, .slice T1 t.c.num.length tc1, .slice T2 t.c.den.length tc2]) t.c) := ⟨⟨_, _, _, _, rfl, g1, g2, g3, g4⟩⟩
 clear h hs hb0 hts g1 g2 g3 g4
 go_enter Tryz.func98, Tryz.ntmps98
 go_upto_region 1 with (fail)
 refine wp_gen (fun W => Below w.heap.size w W ∧ Bk W w.heap.size 68 #[.bool t.c.neg, .slice T1 t.c.num.length tc1, .slice T2 t.c.den.length tc2, .int .i64 t.m.x0, .int .i64 t.m.x1, .int .i64 t.m.x2, .int .i64 t.m.x3]) ⟨(Below.refl _ _).alloc (Nat.le_refl _) _, Bk.new_ _ _ _⟩ ?_
 intro W BX
 have CM := Hd.mk (poly_May b0 order A c ps W (HP.out.up BX.out.1) hc HS.out)
 cases hm : polMay order ps
 ·rw [hm] at CM
  have HE : Hd (polTimes order ps t = (1, [])) := ⟨by unfold polTimes; rw [hm]; rfl⟩
  clear hm
  go_wp2_with fail
  refine CM.out.mono ?_
  rintro e w2 ⟨rfl, hb2⟩
  have HB2 := Hd.mk (BX.out.1.trans (hb2.mono BX.out.1.size))
  clear hb2
  go_wp2_with fail
  go_ret2
  rw [HE.out]
  exact ⟨none, 0, rfl, Nat.le_refl _, RPol.nil _ _ _, HB2.out, Fr.none _⟩
 ·rw [hm] at CM
  have hpl := polMay_len hm
  go_wp2_with fail
  refine CM.out.mono ?_
  rintro e w2 ⟨rfl, hb2⟩
  have HB2 := Hd.mk (BX.out.1.trans (hb2.mono BX.out.1.size))
  have K2 := Hd.mk (BX.out.2.up hb2)
  obtain ⟨⟨a0_, a1_, a2_⟩, a3_, a4_, a5_, a6_⟩ := K2.out.seven
  have CR := Hd.mk (poly_right b0 _ t w2 (HT.out.up HB2.out) HTS.out)
  clear hb2 CM BX
  cases hr : right t
  ·rw [hr] at CR
   have HE : Hd (polTimes order ps t = (1, [])) := ⟨by unfold polTimes; rw [hm, hr]; rfl⟩
   clear hm hr
   go_wp2_with fail
   refine CR.out.mono ?_
   rintro e w3 ⟨rfl, hb3⟩
   have HB3 := Hd.mk (HB2.out.trans (hb3.mono HB2.out.size))
   clear hb3
   go_wp2_with fail
   go_ret2
   rw [HE.out]
   exact ⟨none, 0, rfl, Nat.le_refl _, RPol.nil _ _ _, HB3.out, Fr.none _⟩
  ·rw [hr] at CR
   go_wp2_with fail
   refine CR.out.mono ?_
   rintro e w3 ⟨rfl, hb3⟩
   have HB3 := Hd.mk (HB2.out.trans (hb3.mono HB2.out.size))
   have K3 := Hd.mk (K2.out.up hb3)
   clear hb3 a0_ a1_ a2_ a3_ a4_ a5_ a6_ K2 HB2 CR
   obtain ⟨⟨a0_, a1_, a2_⟩, a3_, a4_, a5_, a6_⟩ := K3.out.seven
   have CZ := Hd.mk (ratio_Zero b0 _ t.c w3 (HRR.out.up HB3.out))
   cases hz : decide (t.c.num.length = 0)
   ·rw [hz] at CZ
    have HE : Hd (polTimes order ps t = timesL t ps) := ⟨by
     unfold polTimes
     rw [hm, hr, if_neg (by simp), if_neg (of_decide_eq_false hz)]⟩
    clear hm hr hz
    go_wp2_with fail
    refine CZ.out.mono ?_
    rintro e w4 ⟨rfl, hb4⟩
    have HB4 := Hd.mk (HB3.out.trans (hb4.mono HB3.out.size))
    have K4 := Hd.mk (K3.out.up hb4)
    clear hb4 a0_ a1_ a2_ a3_ a4_ a5_ a6_ K3 HB3 CZ
    have hmk := mkTerms ps.length ps.length rfl (by omega) w4
    go_wp2_with fail
    clear hmk
    have hbn : Below w4.heap.size w4 (w4.alloc (.cells (zrow ps.length) 68)) := (Below.refl _ _).alloc (Nat.le_refl _) _
    have hgn : w.heap.size ≠ w4.heap.size := Nat.ne_of_lt K4.out.lt
    go_loopw [32] (fun v wr => ∃ (i : Nat) (ds : List TermD) (done : List Value), v = .int .i64 i ∧ i ≤ ps.length ∧
     Hd (Tm b0 w4.heap.size w.heap.size ps.length ps.length i w wr #[.bool t.c.neg, .slice T1 t.c.num.length tc1, .slice T2 t.c.den.length tc2, .int .i64 t.m.x0, .int .i64 t.m.x1, .int .i64 t.m.x2, .int .i64 t.m.x3] ds done [] (zrest (ps.length - i))) ∧ Hd (timesL t ps = appD ds (timesL t (ps.drop i)))) (fun v _ => ps.length - (intOf v).toNat)
    case atStart =>
     refine ⟨0, [], [], rfl, by omega, ⟨⟨HB4.out.trans (hbn.mono HB4.out.size), HB0.out, K4.out.up hbn, Nat.le_refl _, hgn, ?_, rfl, .nil⟩⟩, ⟨(appD_nil t ps).symm⟩⟩
     exact own_made ps.length (by omega) w4 w.heap.size HB4.out.size
    case round =>
     obtain ⟨i, ds, done, rfl, hi, hk, hq⟩ := hrel
     obtain ⟨g, hg⟩ : ∃ g, w4.heap.size = g := ⟨_, rfl⟩
     rw [hg] at hk hgn ⊢
     clear hg hbn HB4 K4
     by_cases hlt : i < ps.length
     ·obtain ⟨ad, B1, c1, B2, c2, s, rfl, hab, hsi, hrs, q0, q1, q2, q3, q4, q5, q6⟩ := (HP.out.up hk.out.below).get hlt
      have i2 : (i : Int) < ps.length := by omega
      have i3 : (0 : Int) ≤ i := by omega
      have hsm : Hd (s ∈ ps) := ⟨List.mem_of_getElem? hsi.out⟩
      have HD : Hd (ps.drop i = s :: ps.drop (i + 1)) := ⟨by
       have e1 : ps[i] = s := by have := hsi.out; rw [List.getElem?_eq_getElem hlt] at this; injection this
       rw [List.drop_eq_getElem_cons hlt, e1]⟩
      clear hsi
      go_upto_region 10 with (fail)
      refine wp_gen (fun W => Below wr.heap.size wr W ∧ Tm b0 g w.heap.size ps.length ps.length i w W #[.bool t.c.neg, .slice T1 t.c.num.length tc1, .slice T2 t.c.den.length tc2, .int .i64 t.m.x0, .int .i64 t.m.x1, .int .i64 t.m.x2, .int .i64 t.m.x3] ds done zc7 (zrest (ps.length - (i + 1))) ∧ Bk W wr.heap.size 68 #[.bool s.c.neg, .slice B1 s.c.num.length c1, .slice B2 s.c.den.length c2, .int .i64 s.m.x0, .int .i64 s.m.x1, .int .i64 s.m.x2, .int .i64 s.m.x3])
       ⟨(Below.refl _ _).alloc (Nat.le_refl _) _, by
        have h1 := hk.out.up ((Below.refl wr.heap.size wr).alloc (Nat.le_refl _) (Obj.cells #[.bool s.c.neg, .slice B1 s.c.num.length c1, .slice B2 s.c.den.length c2, .int .i64 s.m.x0, .int .i64 s.m.x1, .int .i64 s.m.x2, .int .i64 s.m.x3] 68))
        have h2 := h1.own
        rw [show ps.length - i = (ps.length - (i + 1)) + 1 by omega, zrest_succ, List.nil_append] at h2
        exact ⟨h1.below, h1.s0, h1.box, h1.s2, h1.ne, h2, h1.dl, h1.tcs⟩, Bk.new_ _ _ _⟩ ?_
      intro W BY
      have HRS : Hd (RRat W b0 (.agg #[.bool s.c.neg, .slice B1 s.c.num.length c1, .slice B2 s.c.den.length c2]) s.c) := ⟨by
       have hr2 := hrs.out.up BY.out.1
       obtain ⟨x1, x2, x3, x4, e, y1, y2, y3, y4⟩ := hr2
       simp only [Value.agg.injEq, Array.mk.injEq, List.cons.injEq, Value.slice.injEq, true_and, and_true] at e
       obtain ⟨⟨rfl, rfl⟩, rfl, rfl⟩ := e
       exact ⟨_, _, _, _, rfl, y1, y2, y3, y4⟩⟩
      have hgs : Hd (wr.heap.size ≠ g) := ⟨fun e => by
       obtain ⟨⟨cs, hk2⟩, _⟩ := hk.out.bk
       have := hk2.lt
       omega⟩
      obtain ⟨gs, hgs'⟩ : ∃ gs, wr.heap.size = gs := ⟨_, rfl⟩
      rw [hgs'] at hgs
      have HY := Hd.mk BY.out.2.1
      have HYs := Hd.mk (show Bk W gs 68 _ from hgs' ▸ BY.out.2.2)
      rw [hgs']
      clear hgs' hrs q0 q1 q2 q3 q4 q5 q6 hab hk BY
      obtain ⟨S, hS⟩ : ∃ S, mulD s.c t.c = S := ⟨_, rfl⟩
      obtain ⟨M, hM⟩ : ∃ M, monMul s.m t.m = M := ⟨_, rfl⟩
      have HSM := Hd.mk (And.intro hS hM)
      have CA := Hd.mk (ratio_Mul b0 _ _ s.c t.c W (Nat.le_trans HB0.out HY.out.below.size) HRS.out (HRR.out.up HY.out.below) (HS.out.2 s hsm.out) HTS.out)
      have CB := Hd.mk (fun W => mono_Mul s.m t.m W)
      rw [hS] at CA
      rw [hM] at CB
      clear hS hM HRS
      obtain ⟨⟨a0_, a1_, a2_⟩, a3_, a4_, a5_, a6_⟩ := HYs.out.seven
      obtain ⟨⟨b0_, b1_, b2_⟩, b3_, b4_, b5_, b6_⟩ := HY.out.box.seven
      go_wp2_with fail
      refine CA.out.mono ?_
      rintro e w5 ⟨x, rfl, hx, hb5⟩
      have Y5 := Hd.mk (HY.out.up hb5)
      have Ys5 := Hd.mk (HYs.out.up hb5)
      have HX5 := Hd.mk hx
      obtain ⟨xA, xc, xB, xd, rfl, _, _, _, _⟩ := hx
      clear hb5 CA HY HYs a0_ a1_ a2_ a3_ a4_ a5_ a6_ b0_ b1_ b2_ b3_ b4_ b5_ b6_
      have hi7 : i * 7 + 6 < ps.length * 7 := by omega
      have d0_ : w5.cell? ⟨g, i * 7, none⟩ = some (.bool false) := Y5.out.cell 0 (by decide) (by omega)
      have d1_ : w5.cell? ⟨g, i * 7 + 1, none⟩ = some (.slice none 0 0) := Y5.out.cell 1 (by decide) (by omega)
      have d2_ : w5.cell? ⟨g, i * 7 + 2, none⟩ = some (.slice none 0 0) := Y5.out.cell 2 (by decide) (by omega)
      have fz := fun j => Y5.out.froz j
      go_upto_region 11 with (fail)
      refine wp_gen (fun W => Tm b0 g w.heap.size ps.length ps.length i w W #[.bool t.c.neg, .slice T1 t.c.num.length tc1, .slice T2 t.c.den.length tc2, .int .i64 t.m.x0, .int .i64 t.m.x1, .int .i64 t.m.x2, .int .i64 t.m.x3] ds done [.bool S.2.neg, .slice xA S.2.num.length xc, .slice xB S.2.den.length xd, .int .i64 0, .int .i64 0, .int .i64 0, .int .i64 0] (zrest (ps.length - (i + 1))) ∧ Bk W gs 68 #[.bool s.c.neg, .slice B1 s.c.num.length c1, .slice B2 s.c.den.length c2, .int .i64 s.m.x0, .int .i64 s.m.x1, .int .i64 s.m.x2, .int .i64 s.m.x3] ∧
       RRat W b0 (.agg #[.bool S.2.neg, .slice xA S.2.num.length xc, .slice xB S.2.den.length xd]) S.2)
       ⟨((Y5.out.setc 0 (by simp [zc7]) _).setc 1 (by simp [zc7]) _).setc 2 (by simp [zc7]) _, ((Ys5.out.far hgs.out _).far hgs.out _).far hgs.out _, HX5.out.grown (((set_grown w5 ⟨g, i * 7, none⟩ _).set _ _).set _ _) Y5.out.row⟩ ?_
      intro W6 B6
      clear d0_ d1_ d2_ fz Y5 Ys5 HX5
      obtain ⟨⟨a0_, a1_, a2_⟩, a3_, a4_, a5_, a6_⟩ := B6.out.2.1.seven
      obtain ⟨⟨b0_, b1_, b2_⟩, b3_, b4_, b5_, b6_⟩ := B6.out.1.box.seven
      go_wp2_with fail
      refine (CB.out W6).mono ?_
      rintro e w7 ⟨rfl, hb7⟩
      have Y7 := Hd.mk (B6.out.1.up hb7.lo)
      have X7 := Hd.mk (B6.out.2.2.up hb7.lo)
      clear hb7 CB B6 a0_ a1_ a2_ a3_ a4_ a5_ a6_ b0_ b1_ b2_ b3_ b4_ b5_ b6_
      have d3_ : w7.cell? ⟨g, i * 7 + 3, none⟩ = some (.int .i64 0) := Y7.out.cell 3 (by simp) (by omega)
      have d4_ : w7.cell? ⟨g, i * 7 + 3 + 1, none⟩ = some (.int .i64 0) := Y7.out.cell 4 (by simp) (by omega)
      have d5_ : w7.cell? ⟨g, i * 7 + 3 + 2, none⟩ = some (.int .i64 0) := Y7.out.cell 5 (by simp) (by omega)
      have d6_ : w7.cell? ⟨g, i * 7 + 3 + 3, none⟩ = some (.int .i64 0) := Y7.out.cell 6 (by simp) (by omega)
      have fz := fun j => Y7.out.froz j
      go_upto_region 12 with (fail)
      refine wp_gen (fun W => Tm b0 g w.heap.size ps.length ps.length i w W #[.bool t.c.neg, .slice T1 t.c.num.length tc1, .slice T2 t.c.den.length tc2, .int .i64 t.m.x0, .int .i64 t.m.x1, .int .i64 t.m.x2, .int .i64 t.m.x3] ds done [.bool S.2.neg, .slice xA S.2.num.length xc, .slice xB S.2.den.length xd, .int .i64 M.2.x0, .int .i64 M.2.x1, .int .i64 M.2.x2, .int .i64 M.2.x3] (zrest (ps.length - (i + 1))) ∧
       RRat W b0 (.agg #[.bool S.2.neg, .slice xA S.2.num.length xc, .slice xB S.2.den.length xd]) S.2)
       ⟨(((Y7.out.setc 3 (by simp) _).setc 4 (by simp) _).setc 5 (by simp) _).setc 6 (by simp) _, X7.out.grown ((((set_grown w7 ⟨g, i * 7 + 3, none⟩ _).set _ _).set _ _).set _ _) Y7.out.row⟩ ?_
      intro W8 B8
      clear d3_ d4_ d5_ d6_ fz Y7 X7
      by_cases h0 : S.1 = 0
      ·have e1 : (S.1 != 0) = false := by rw [bne_eq_false_iff_eq]; exact h0
       by_cases h1 : M.1 = 0
       ·have e2 : (M.1 != 0) = false := by rw [bne_eq_false_iff_eq]; exact h1
        have HQ : Hd (timesL t ps = appD (ds ++ [⟨S.2, M.2⟩]) (timesL t (ps.drop (i + 1)))) := ⟨by
         rw [hq.out, HD.out, appD_step (by rw [HSM.out.1]; exact h0) (by rw [HSM.out.2]; exact h1), HSM.out.1, HSM.out.2]⟩
        clear h0 h1
        have T9 := Hd.mk (B8.out.1.done_ (s := ⟨S.2, M.2⟩) (by
         obtain ⟨x1, x2, x3, x4, e, y1, y2, y3, y4⟩ := B8.out.2
         simp only [Value.agg.injEq, Array.mk.injEq, List.cons.injEq, Value.slice.injEq, true_and, and_true] at e
         obtain ⟨⟨rfl, rfl⟩, rfl, rfl⟩ := e
         exact ⟨_, _, _, _, rfl, y1, y2, y3, y4⟩) (rest1 := []) rfl)
        go_wp2_with fail
        go_roundw
        case measure => first | (simp [intOf]; done) | (simp [intOf]; omega)
        case rel => exact ⟨i + 1, _, _, by go_num, by omega, T9, HQ⟩
       ·have e2 : (M.1 != 0) = true := by rw [bne_iff_ne]; exact h1
        have HQ : Hd (timesL t ps = (M.1, [])) := ⟨by
         rw [hq.out, HD.out]
         unfold timesL
         rw [HSM.out.1, HSM.out.2, if_neg (by rw [h0]; simp), if_pos h1]
         unfold appD
         rw [if_pos h1]⟩
        clear h0 h1
        go_wp2_with fail
        go_ret2
        rw [HE.out, HQ.out]
        exact ⟨none, 0, rfl, Nat.le_refl _, RPol.nil _ _ _, B8.out.1.below, Fr.none _⟩
      ·have e1 : (S.1 != 0) = true := by rw [bne_iff_ne]; exact h0
       have HQ : Hd (timesL t ps = (S.1, [])) := ⟨by
        rw [hq.out, HD.out]
        unfold timesL
        rw [HSM.out.1, if_pos h0]
        unfold appD
        rw [if_pos h0]⟩
       clear h0
       go_wp2_with fail
       go_ret2
       rw [HE.out, HQ.out]
       exact ⟨none, 0, rfl, Nat.le_refl _, RPol.nil _ _ _, B8.out.1.below, Fr.none _⟩
     ·have hie : i = ps.length := by omega
      subst hie
      have HQ : Hd (timesL t ps = (0, ds)) := ⟨by
       rw [hq.out, List.drop_length]
       simp [timesL, appD]⟩
      have hown := hk.out.own
      rw [Nat.sub_self, show zrest 0 = [] from rfl, List.append_nil, List.append_nil] at hown
      have hdl : ds.length = ps.length := by
       have e1 := hk.out.dl
       have e2 := hk.out.tcs.len
       omega
      have OT := Hd.mk (show OwnT wr b0 w.heap.size (.slice (some ⟨g, 0, none⟩) ps.length ps.length) ds from ⟨done, by rw [hdl]; exact hown, hk.out.tcs⟩)
      have HDL := Hd.mk hdl
      clear hown hdl hq
      go_wp2_with fail
      go_ret2
      rw [HE.out, HQ.out]
      obtain ⟨A', c', e, hc', _, hr⟩ := OT.out.reads
      injection e with e1 e2 e3
      subst e1 e3
      exact ⟨_, _, (by rw [HDL.out]; rfl), hc', hr, hk.out.below, OT.out.fr (Nat.le_refl _)⟩
   ·rw [hz] at CZ
    have HE : Hd (polTimes order ps t = (0, [])) := ⟨by
     unfold polTimes
     rw [hm, hr, if_neg (by simp), if_pos (of_decide_eq_true hz)]⟩
    clear hm hr hz
    go_wp2_with fail
    refine CZ.out.mono ?_
    rintro e w4 ⟨rfl, hb4⟩
    have HB4 := Hd.mk (HB3.out.trans (hb4.mono HB3.out.size))
    clear hb4
    go_wp2_with fail
    go_ret2
    rw [HE.out]
    exact ⟨none, 0, rfl, Nat.le_refl _, RPol.nil _ _ _, HB4.out, Fr.none _⟩
theorem poly_Times (b0 : Nat) (order : Int) (A : Option Addr) (c : Nat) (ps : List TermD) (v : Value) (t : TermD) (w : World) (hb0 : b0 ≤ w.heap.size) (h : RPol w b0 A ps) (hc : ps.length ≤ c) (hs : shortP ps) (ht : RTerm w b0 v t) (hts : t.c.short) :
    Calls Tryz.prog 98 #[.int .i64 order, .slice A ps.length c, v] w fun e w' => ∃ A' c', e = .returned (.tuple #[.slice A' (polTimes order ps t).2.length c', .int .i64 (polTimes order ps t).1]) ∧
     (polTimes order ps t).2.length ≤ c' ∧ RPol w' b0 A' (polTimes order ps t).2 ∧ Below w.heap.size w w' :=
 (poly_TimesF b0 order A c ps v t w hb0 h hc hs ht hts).mono fun _ _ ⟨A', c', h1, h2, h3, h4, _⟩ => ⟨A', c', h1, h2, h3, h4⟩
def mulC (o : Int) (p : List TermD) : List TermD → Int × List TermD
 | [] => (0, [])
 | t :: r => if (polTimes o p t).1 ≠ 0 then ((polTimes o p t).1, []) else appD (polTimes o p t).2 (mulC o p r)
def polMul (o : Int) (p q : List TermD) : Int × List TermD :=
 if (polMay o p && polMay o q) = false then (1, []) else if (mulC o p q).1 ≠ 0 then ((mulC o p q).1, []) else polMake o (mulC o p q).2
theorem timesL_facts (t : TermD) : ∀ p, (timesL t p).2.length ≤ p.length ∧ ∀ s ∈ (timesL t p).2, s.c.short
 | [] => ⟨by simp [timesL], fun s h => by simp [timesL] at h⟩
 | s :: r => by
   obtain ⟨h1, h2⟩ := timesL_facts t r
   unfold timesL
   split
   ·exact ⟨by simp, fun s h => by simp at h⟩
   ·split
    ·exact ⟨by simp, fun s h => by simp at h⟩
    ·split
     ·exact ⟨by simp, fun s h => by simp at h⟩
     ·refine ⟨by simpa using h1, fun u hu => ?_⟩
      rcases List.mem_cons.1 hu with rfl | hu
      ·exact mulD_short _ _
      ·exact h2 u hu
theorem polTimes_facts (o : Int) (p : List TermD) (t : TermD) : (polTimes o p t).2.length ≤ p.length ∧ ∀ s ∈ (polTimes o p t).2, s.c.short := by
 unfold polTimes
 split
 ·exact ⟨by simp, fun s h => by simp at h⟩
 ·split
  ·exact ⟨by simp, fun s h => by simp at h⟩
  ·exact timesL_facts t p
def putW (o : Int) (t : TermD) : Bool → List TermD → List TermD → Int × List TermD
 | d, acc, [] => (0, if d = true then acc else acc ++ [t])
 | d, acc, p :: r => if monCmp o p.m t.m = 0 then (if (addD p.c t.c).1 ≠ 0 then ((addD p.c t.c).1, []) else putW o t true (acc ++ [⟨(addD p.c t.c).2, t.m⟩]) r)
   else if monCmp o p.m t.m < 0 ∧ d = false then putW o t true (acc ++ [t, p]) r else putW o t d (acc ++ [p]) r
theorem putW_done {o : Int} {t : TermD} : ∀ {r acc : List TermD}, (∀ p ∈ r, monCmp o p.m t.m ≠ 0) → putW o t true acc r = (0, acc ++ r)
 | [], acc, _ => by simp [putW]
 | p :: r, acc, h => by
   unfold putW
   rw [if_neg (h p (by simp)), if_neg (by simp), putW_done (fun q hq => h q (by simp [hq]))]
   simp
theorem putW_putD {o : Int} {t : TermD} (ht : monMay t.m = true) : ∀ {r acc : List TermD}, Sta o r → putW o t false acc r = appD acc (putD o r t)
 | [], acc, _ => by simp [putW, putD, hasM, insD, appD]
 | p :: r, acc, h => by
   obtain ⟨ho, hg, hf⟩ := h
   obtain ⟨f1, f2⟩ := List.pairwise_cons.1 hf
   have hp := hg p (by simp)
   have hr : Sta o r := ⟨ho, fun s hs => hg s (by simp [hs]), f2⟩
   unfold putW
   by_cases h0 : monCmp o p.m t.m = 0
   ·have em : p.m = t.m := (monCmp_zero ho hp ht).1 h0
    have far : ∀ q ∈ r, q.m ≠ t.m := fun q hq e => by
     have := f1 q hq
     rw [em, e, (monCmp_zero ho ht ht).2 rfl] at this
     omega
    have hn : ∀ q ∈ r, monCmp o q.m t.m ≠ 0 := fun q hq e => far q hq ((monCmp_zero ho (hg q (by simp [hq])) ht).1 e)
    have hh : hasM (p :: r) t.m = true := hasM_iff.2 ⟨p, by simp, em⟩
    have hget : getM (p :: r) t.m = p.c := by unfold getM; simp [em]
    rw [if_pos h0]
    unfold putD
    rw [if_pos hh, hget]
    by_cases he : (addD p.c t.c).1 = 0
    ·rw [if_neg (by simpa using he), if_neg (by simpa using he), putW_done hn]
     have hs : setM (p :: r) t.m (addD p.c t.c).2 = ⟨(addD p.c t.c).2, t.m⟩ :: r := by
      have : setM r t.m (addD p.c t.c).2 = r := setM_far' far _
      unfold setM at this ⊢
      rw [List.map_cons, if_pos em, this]
     rw [hs]
     simp [appD]
    ·rw [if_pos (by simpa using he), if_pos (by simpa using he)]
     simp [appD, he]
   ·rw [if_neg h0]
    have em : p.m ≠ t.m := fun e => h0 ((monCmp_zero ho hp ht).2 e)
    by_cases hlt : monCmp o p.m t.m < 0
    ·have hn : ∀ q ∈ r, monCmp o q.m t.m < 0 := fun q hq => by
       have a1 := f1 q hq
       have a2 := monCmp_anti ho hp (hg q (by simp [hq]))
       exact monCmp_lt ho (hg q (by simp [hq])) hp ht (by omega) hlt
     rw [if_pos ⟨hlt, rfl⟩, putW_done (fun q hq e => by have := hn q hq; omega)]
     have hh : ¬ hasM (p :: r) t.m = true := fun h => by
      obtain ⟨q, hq, e⟩ := hasM_iff.1 h
      rcases List.mem_cons.1 hq with rfl | hq
      ·exact em e
      ·have := hn q hq
       rw [e, (monCmp_zero ho ht ht).2 rfl] at this
       omega
     unfold putD
     rw [if_neg hh]
     unfold insD
     rw [if_pos hlt]
     simp [appD]
    ·rw [if_neg (fun h => hlt h.1), putW_putD ht hr]
     have hh : hasM (p :: r) t.m = hasM r t.m := by unfold hasM; simp [em]
     have hget : getM (p :: r) t.m = getM r t.m := by unfold getM; rw [List.find?_cons, decide_eq_false em]
     have hset : ∀ c, setM (p :: r) t.m c = p :: setM r t.m c := fun c => by unfold setM; rw [List.map_cons, if_neg em]
     have hins : insD o t (p :: r) = p :: insD o t r := by conv => lhs; unfold insD
                                                           rw [if_neg hlt]
     unfold putD
     rw [hh, hget, hset, hins]
     by_cases h1 : hasM r t.m = true
     ·rw [if_pos h1, if_pos h1]
      by_cases he : (addD (getM r t.m) t.c).1 = 0
      ·rw [if_neg (by simpa using he), if_neg (by simpa using he)]; simp [appD]
      ·rw [if_pos (by simpa using he), if_pos (by simpa using he)]; simp [appD, he]
     ·rw [if_neg h1, if_neg h1]; simp [appD]
where
 setM_far' {al : List TermD} {m : MonD} (h : ∀ p ∈ al, p.m ≠ m) (c : RatD) : setM al m c = al := by
  unfold setM
  induction al with
  | nil => rfl
  | cons p al ih => rw [List.map_cons, if_neg (h p (by simp)), ih (fun q hq => h q (by simp [hq]))]
structure Apd (b0 base B : Nat) (w0 w w' : World) (v v' : Value) (ds us : List TermD) : Prop where
 own : OwnT w' b0 base v' (ds ++ us)
 below : Below B w0 w'
 size : w.heap.size ≤ w'.heap.size
 bk : ∀ {g : Nat} {t : TypeId} {cs : Array Value}, Bk w g t cs → g < base → Bk w' g t cs
 rat : ∀ {u : Value} {r : RatD}, RRat w b0 u r → RRat w' b0 u r
 term : ∀ {u : Value} {s : TermD}, RTerm w b0 u s → RTerm w' b0 u s
theorem RTerm.grown {w w' : World} {b0 : Nat} {v : Value} {t : TermD} {row : Option Nat} (h : RTerm w b0 v t) (hg : w.grownBy w' row) (hr : ∀ g, row = some g → b0 ≤ g ∧ ∃ t cs, Bk w g t cs ∧ t ≠ 112) : RTerm w' b0 v t :=
 let ⟨A, c, B, d, e, h1, h2, h3, h4⟩ := h; ⟨A, c, B, d, e, h1, h2, h3.grown hg hr, h4.grown hg hr⟩
theorem wpList_append_T {w w0 : World} {ops : Array Oper} {rest : List Oper} {o : Oper} {a : Act} {Q : Exit → Act → World → Prop} (hgd : o.guard = none) (s x : Operand) (t t2 : TypeId)
    (ho : o.op = .call { callee := .builtin .append, args := #[s, x], argTypes := #[t, t2] }) (ht : Tryz.prog.underlying t = some (.slice 68)) (ht2 : Tryz.prog.underlying t2 = some (.slice 68))
    {b0 base B : Nat} {v : Value} {ds us : List TermD} {A : Option Addr} {m c : Nat} (hs : a.eval s = v) (hx : a.eval x = .slice A m c) (hm : m = us.length) (hO : OwnT w b0 base v ds) (hR : RPol w b0 A us)
    (hb : b0 ≤ base) (hlen : ds.length + us.length ≤ 1000000) (hB : Below B w0 w) (hBb : B ≤ base) (hbase : base ≤ w.heap.size)
    (h : ∀ v' w', Apd b0 base B w0 w w' v v' ds us → wpList Tryz.prog ops Q rest (a.put o.dst v') w') : wpList Tryz.prog ops Q (o :: rest) a w := by
 subst hm
 obtain ⟨i0, hi0, hz0, hz1, hz2⟩ := info_split Tryz.infTerm
 obtain ⟨cs, o1, o2⟩ := hO
 obtain ⟨ds', r1, r2⟩ := hR
 refine wpList_append_rd2 w hgd s x t t2 ho base 68 i0 _ 7 88 ht ht2 hi0 hz0 hz1 hz2 rfl (by decide) v ds.length cs hs o1 _ A us.length c ds' hx r1 r2.one (by unfold maxLen; omega) (by omega) hbase ?_
 intro v' w' h1 hg _
 have hr := own_row_ok o1 hb (by decide)
 refine h v' w' ⟨OwnT.app o1 o2 r2 hb hg h1, hB.grown hg (Nat.le_trans hBb hbase) (fun k hk => Nat.le_trans hBb (own_bk o1 hk).2), hg.size, fun hk hlt => hk.grown hg (fun e => ?_), fun hr' => hr'.grown hg hr, fun hr' => hr'.grown hg hr⟩
 have := (own_bk o1 e.symm).2
 omega
theorem step_append_T {w w0 : World} {ops : Array Oper} {o : Oper} {a : Act} {K : Act → World → Prop} {Q : Exit → Act → World → Prop} {E : Prop} (hgd : o.guard = none) (s x : Operand) (t : TypeId)
    (ho : o.op = .call { callee := .builtin .append, args := #[s, x], argTypes := #[t, t] }) (ht : Tryz.prog.underlying t = some (.slice 68))
    {b0 base B : Nat} {v : Value} {ds us : List TermD} {A : Option Addr} {m c : Nat} (hs : a.eval s = v) (hx : a.eval x = .slice A m c) (hm : m = us.length) (hO : OwnT w b0 base v ds) (hR : RPol w b0 A us)
    (hb : b0 ≤ base) (hlen : ds.length + us.length ≤ 1000000) (hB : Below B w0 w) (hBb : B ≤ base) (hbase : base ≤ w.heap.size)
    (h : ∀ v' w', Apd b0 base B w0 w w' v v' ds us → K (a.put o.dst v') w') : if Region.wanted o (yielded ops a.tmps) = true then Oper.wp Tryz.prog o a w K Q else E := by
 subst hm
 obtain ⟨i0, hi0, hz0, hz1, hz2⟩ := info_split Tryz.infTerm
 obtain ⟨cs, o1, o2⟩ := hO
 obtain ⟨ds', r1, r2⟩ := hR
 refine step_append_rdN w hgd s x t ho base 68 i0 _ 7 88 ht hi0 hz0 hz1 hz2 rfl (by decide) v ds.length cs hs o1 _ A us.length c ds' hx r1 r2.one (by unfold maxLen; omega) (by omega) hbase ?_
 intro v' w' h1 hg _
 have hr := own_row_ok o1 hb (by decide)
 refine h v' w' ⟨OwnT.app o1 o2 r2 hb hg h1, hB.grown hg (Nat.le_trans hBb hbase) (fun k hk => Nat.le_trans hBb (own_bk o1 hk).2), hg.size, fun hk hlt => hk.grown hg (fun e => ?_), fun hr' => hr'.grown hg hr, fun hr' => hr'.grown hg hr⟩
 have := (own_bk o1 e.symm).2
 omega
theorem rterm_of {w : World} {b0 : Nat} {r : RatD} {A B : Option Addr} {c d : Nat} (h : RRat w b0 (.agg #[.bool r.neg, .slice A r.num.length c, .slice B r.den.length d]) r) (m : MonD) :
    RTerm w b0 (.agg #[.bool r.neg, .slice A r.num.length c, .slice B r.den.length d, .int .i64 m.x0, .int .i64 m.x1, .int .i64 m.x2, .int .i64 m.x3]) ⟨r, m⟩ := by
 obtain ⟨x1, x2, x3, x4, e, y1, y2, y3, y4⟩ := h
 simp only [Value.agg.injEq, Array.mk.injEq, List.cons.injEq, Value.slice.injEq, true_and, and_true] at e
 obtain ⟨⟨rfl, rfl⟩, rfl, rfl⟩ := e
 exact ⟨_, _, _, _, rfl, y1, y2, y3, y4⟩
theorem at_world {B : Nat} {w0 w : World} {b0 : Nat} {v : Value} {r : RatD} (_ : Below B w0 w) (h : RRat w b0 v r) : RRat w b0 v r := h
theorem rpol_one {w : World} {b0 : Nat} {t : TermD} {A B : Option Addr} {c d : Nat} (h : RTerm w b0 (.agg #[.bool t.c.neg, .slice A t.c.num.length c, .slice B t.c.den.length d, .int .i64 t.m.x0, .int .i64 t.m.x1, .int .i64 t.m.x2, .int .i64 t.m.x3]) t) (ty : TypeId) :
    RPol (w.alloc (.cells #[.bool t.c.neg, .slice A t.c.num.length c, .slice B t.c.den.length d, .int .i64 t.m.x0, .int .i64 t.m.x1, .int .i64 t.m.x2, .int .i64 t.m.x3] ty)) b0 (some ⟨w.heap.size, 0, none⟩) [t] := by
 have hb : Below w.heap.size w (w.alloc (.cells #[.bool t.c.neg, .slice A t.c.num.length c, .slice B t.c.den.length d, .int .i64 t.m.x0, .int .i64 t.m.x1, .int .i64 t.m.x2, .int .i64 t.m.x3] ty)) := (Below.refl _ _).alloc (Nat.le_refl _) _
 obtain ⟨x1, x2, x3, x4, e, y1, y2, y3, y4⟩ := h
 simp only [Value.agg.injEq, Array.mk.injEq, List.cons.injEq, Value.slice.injEq, true_and, and_true] at e
 obtain ⟨⟨rfl, rfl⟩, rfl, rfl⟩ := e
 have hr := Rd.new_ w #[.bool t.c.neg, .slice A t.c.num.length c, .slice B t.c.den.length d, .int .i64 t.m.x0, .int .i64 t.m.x1, .int .i64 t.m.x2, .int .i64 t.m.x3] ty 1 7 rfl
 refine ⟨_, hr.more (by simp), ?_⟩
 have := TCs.cons (w := w.alloc (.cells #[.bool t.c.neg, .slice A t.c.num.length c, .slice B t.c.den.length d, .int .i64 t.m.x0, .int .i64 t.m.x1, .int .i64 t.m.x2, .int .i64 t.m.x3] ty)) (b0 := b0) (t := t) ⟨A, c, B, d, rfl, y1, y2, y3.up hb, y4.up hb⟩ .nil
 simpa using this
end Go.Proofs.YtgjkgkgieeoalaaGreat
