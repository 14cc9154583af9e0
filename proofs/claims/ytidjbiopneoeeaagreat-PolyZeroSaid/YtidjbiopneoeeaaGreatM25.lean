/- Parts of the proof, joined: what each says stands at its head. -/
import Derived.Test.YtidjbiopneoeeaaGreatM24
set_option linter.unusedVariables false
set_option linter.unusedSimpArgs false
/- The state of poly.Times's loop; what it comes to on data. No condition. -/
namespace Go.Proofs.YtidjbiopneoeeaaGreat
open Go.RowKit

def timesL (t : TermD) : List TermD → Int × List TermD
  | [] => (0, [])
  | s :: r => if (mulD s.c t.c).1 ≠ 0 then ((mulD s.c t.c).1, []) else if (monMul s.m t.m).1 ≠ 0 then ((monMul s.m t.m).1, [])
    else if (timesL t r).1 ≠ 0 then ((timesL t r).1, []) else (0, ⟨(mulD s.c t.c).2, (monMul s.m t.m).2⟩ :: (timesL t r).2)
def polTimes (o : Int) (p : List TermD) (t : TermD) : Int × List TermD :=
  if (polMay o p && right t) = false then (1, []) else if t.c.num.length = 0 then (0, []) else timesL t p
def appD (ds : List TermD) (q : Int × List TermD) : Int × List TermD := if q.1 ≠ 0 then (q.1, []) else (0, ds ++ q.2)
theorem timesL_ok (t : TermD) (p : List TermD) : (timesL t p).1 ≠ 0 → (timesL t p).2 = [] := by
  cases p with
  | nil => intro h; exact absurd rfl h
  | cons s r =>
    unfold timesL
    split
    · intro _; rfl
    · split
      · intro _; rfl
      · split
        · intro _; rfl
        · intro h; exact absurd rfl h
theorem appD_nil (t : TermD) (p : List TermD) : appD [] (timesL t p) = timesL t p := by
  unfold appD
  by_cases h : (timesL t p).1 ≠ 0
  · rw [if_pos h]; exact Prod.ext rfl (timesL_ok t p h).symm
  · rw [if_neg h]; exact Prod.ext (by simpa using (Classical.not_not.1 h).symm) rfl
theorem appD_step {t s : TermD} {ds r : List TermD} (h1 : (mulD s.c t.c).1 = 0) (h2 : (monMul s.m t.m).1 = 0) : appD ds (timesL t (s :: r)) = appD (ds ++ [⟨(mulD s.c t.c).2, (monMul s.m t.m).2⟩]) (timesL t r) := by
  conv => lhs; unfold timesL
  rw [if_neg (by rw [h1]; simp), if_neg (by rw [h2]; simp)]
  unfold appD
  by_cases h : (timesL t r).1 ≠ 0
  · rw [if_pos h]
    simp [h]
  · rw [if_neg h]
    simp [h]

def zc7 : List Value := [.bool false, .slice none 0 0, .slice none 0 0, .int .i64 0, .int .i64 0, .int .i64 0, .int .i64 0]
def zrest (m : Nat) : List Value := (List.replicate m zc7).flatten
theorem zrest_succ (m : Nat) : zrest (m + 1) = zc7 ++ zrest m := by simp [zrest, List.replicate_succ]
theorem zrest_len (m : Nat) : (zrest m).length = m * 7 := by
  induction m with
  | zero => rfl
  | succ m ih => rw [zrest_succ, List.length_append, ih, show zc7.length = 7 from rfl]; omega
theorem zrest_get : ∀ (m j : Nat), j < m * 7 → (zrest m)[j]? = zc7[j % 7]?
  | 0, j, h => by omega
  | m + 1, j, h => by
    rw [zrest_succ]
    rcases Nat.lt_or_ge j 7 with h7 | h7
    · rw [List.getElem?_append_left (by exact h7), Nat.mod_eq_of_lt h7]
    · rw [List.getElem?_append_right (by exact h7), show zc7.length = 7 from rfl, zrest_get m (j - 7) (by omega), show j % 7 = (j - 7) % 7 by omega]
theorem made_terms (n : Nat) : (madeCells (Value.agg #[.bool false, .slice none 0 0, .slice none 0 0, .int .i64 0, .int .i64 0, .int .i64 0, .int .i64 0]).cells (n * 7)).toList = zrest n := by
  apply List.ext_getElem?
  intro j
  rcases Nat.lt_or_ge j (n * 7) with h | h
  · rw [zrest_get n j h]
    have e7 : j % 7 < 7 := Nat.mod_lt _ (by decide)
    have : (madeCells (Value.agg #[.bool false, .slice none 0 0, .slice none 0 0, .int .i64 0, .int .i64 0, .int .i64 0, .int .i64 0]).cells (n * 7)).toList[j]? = some ((zc7.toArray)[j % 7]!) := by
      unfold madeCells
      simp [h, zc7, Value.cells]
    rw [this]
    generalize j % 7 = k at e7
    match k, e7 with
    | 0, _ => rfl
    | 1, _ => rfl
    | 2, _ => rfl
    | 3, _ => rfl
    | 4, _ => rfl
    | 5, _ => rfl
    | 6, _ => rfl
  · rw [List.getElem?_eq_none (by rw [Array.length_toList, size_madeCells]; exact h), List.getElem?_eq_none (by rw [zrest_len]; exact h)]

/-- the state of poly.Times's loop -/
structure Tm (b0 g gb n c i : Nat) (w0 w : World) (tc : Array Value) (ds : List TermD) (done zc rest : List Value) : Prop where
  below : Below w0.heap.size w0 w
  s0 : b0 ≤ w0.heap.size
  box : Bk w gb 67 tc
  s2 : w0.heap.size ≤ gb
  ne : gb ≠ g
  own : w.ownsRow w0.heap.size 67 7 (.slice (some ⟨g, 0, none⟩) n c) n (done ++ (zc ++ rest))
  dl : done.length = i * 7
  tcs : TCs w b0 ds done
section
variable {b0 g gb n c i : Nat} {w0 w w' : World} {tc : Array Value} {ds : List TermD} {done zc rest : List Value}
theorem Tm.up (h : Tm b0 g gb n c i w0 w tc ds done zc rest) (hb : Below w.heap.size w w') : Tm b0 g gb n c i w0 w' tc ds done zc rest :=
  ⟨h.below.trans (hb.mono h.below.size), h.s0, h.box.up hb, h.s2, h.ne, own_below h.own hb, h.dl, h.tcs.up hb⟩
theorem Tm.bk (h : Tm b0 g gb n c i w0 w tc ds done zc rest) : (∃ cs, Bk w g 67 cs) ∧ w0.heap.size ≤ g := own_bk h.own rfl
theorem Tm.row (h : Tm b0 g gb n c i w0 w tc ds done zc rest) : ∀ g', some g = some g' → b0 ≤ g' ∧ ∃ t cs, Bk w g' t cs ∧ t ≠ 106 := fun g' e => own_row_ok h.own h.s0 (by decide) g' (by rw [← e]; rfl)
theorem Tm.setc (h : Tm b0 g gb n c i w0 w tc ds done zc rest) (k : Nat) (hk : k < zc.length) (u : Value) : Tm b0 g gb n c i w0 (w.setCell ⟨g, i * 7 + k, none⟩ u) tc ds done (zc.set k u) rest := by
  have h1 := (World.ownsRow.stored h.own (i * 7 + k) u).1
  refine ⟨h.below.setCell h.bk.2 u, h.s0, h.box.far h.ne u, h.s2, h.ne, ?_, h.dl, h.tcs.grown (set_grown w ⟨g, i * 7 + k, none⟩ u) h.row⟩
  rw [List.set_append_right _ _ (by rw [h.dl]; omega), h.dl, show i * 7 + k - i * 7 = k by omega, List.set_append_left _ _ hk] at h1
  exact h1
theorem Tm.cell (h : Tm b0 g gb n c i w0 w tc ds done zc rest) (k : Nat) (hk : k < zc.length) (hi : i * 7 + k < n * 7) : w.cell? ⟨g, i * 7 + k, none⟩ = zc[k]? := by
  rw [World.ownsRow.cellAt h.own _ hi, List.getElem?_append_right (by rw [h.dl]; omega), h.dl, show i * 7 + k - i * 7 = k by omega, List.getElem?_append_left hk]
theorem Tm.froz (h : Tm b0 g gb n c i w0 w tc ds done zc rest) (j : Nat) : w.frozen? ⟨g, j, none⟩ = false := World.ownsRow.frozenAt h.own j
theorem Tm.done_ (h : Tm b0 g gb n c i w0 w tc ds done zc rest) {s : TermD} (hs : TC w b0 s zc) {rest1 rest2 : List Value} (hr : rest = rest1 ++ rest2) : Tm b0 g gb n c (i + 1) w0 w tc (ds ++ [s]) (done ++ zc) rest1 rest2 := by
  refine ⟨h.below, h.s0, h.box, h.s2, h.ne, ?_, ?_, ?_⟩
  · have := h.own
    rw [hr] at this
    simpa using this
  · rw [List.length_append, h.dl, hs.len]; omega
  · have := h.tcs.app (.cons hs .nil)
    simpa using this
end
end Go.Proofs.YtidjbiopneoeeaaGreat
/- The walk of poly.Times. The condition: short rows. -/
namespace Go.Proofs.YtidjbiopneoeeaaGreat
open Go.RowKit

def zeroTermV : Value := .agg #[.bool false, .slice none 0 0, .slice none 0 0, .int .i64 0, .int .i64 0, .int .i64 0, .int .i64 0]
def zrow (n : Nat) : Array Value := madeCells zeroTermV.cells (n * 7)
theorem mkTerms (n : Nat) (N : Int) (hN : N = n) (h9 : n ≤ 1000000) (w : World) :
    (Instr.makeSlice 25 (.int .i64 N) (.int .i64 N)).run Tryz.prog w = .ok (.slice (some ⟨w.heap.size, 0, none⟩) n n) (w.alloc (.cells (zrow n) 67)) := by
  subst hN
  obtain ⟨i0, hi, hz0, hz1, hz2⟩ := info_split Tryz.infTerm
  have hr := run_make (P := Tryz.prog) w 25 67 i0 _ Tryz.slPoly hi hz0 .i64 .i64 n n (by omega) (Int.le_refl _) (by rw [hz2]; omega) (by omega)
  simp only [Int.toNat_natCast, hz1] at hr
  exact hr

theorem own_made (n : Nat) (h9 : n ≤ 1000000) (w : World) (base : Nat) (hb : base ≤ w.heap.size) : (w.alloc (.cells (zrow n) 67)).ownsRow base 67 7 (.slice (some ⟨w.heap.size, 0, none⟩) n n) n (zrest n) := by
  have := World.ownsRow_lit (e := 67) (size := 7) w (zrow n) n hb (by unfold maxLen; omega) (size_madeCells _ _)
  rw [show (zrow n).toList = zrest n from made_terms n] at this
  exact this

set_option maxHeartbeats 4000000 in
set_option maxRecDepth 100000 in
theorem poly_Times (b0 : Nat) (order : Int) (A : Option Addr) (c : Nat) (ps : List TermD) (v : Value) (t : TermD) (w : World) (hb0 : b0 ≤ w.heap.size) (h : RPol w b0 A ps) (hc : ps.length ≤ c) (hs : shortP ps) (ht : RTerm w b0 v t) (hts : t.c.short) :
    Calls Tryz.prog 41 #[.int .i64 order, .slice A ps.length c, v] w fun e w' => ∃ A' c', e = .returned (.tuple #[.slice A' (polTimes order ps t).2.length c', .int .i64 (polTimes order ps t).1]) ∧
      (polTimes order ps t).2.length ≤ c' ∧ RPol w' b0 A' (polTimes order ps t).2 ∧ Below w.heap.size w w' := by
  have HP := Hd.mk h
  have HS := Hd.mk hs
  have HB0 := Hd.mk hb0
  have HT := Hd.mk ht
  have HTS := Hd.mk hts
  have hl := hs.1
  obtain ⟨T1, tc1, T2, tc2, rfl, g1, g2, g3, g4⟩ := ht
  have HRR : Hd (RRat w b0 (.agg #[.bool t.c.neg, .slice T1 t.c.num.length tc1, .slice T2 t.c.den.length tc2]) t.c) := ⟨⟨_, _, _, _, rfl, g1, g2, g3, g4⟩⟩
  clear h hs hb0 hts g1 g2 g3 g4
  go_enter Tryz.func41, Tryz.ntmps41
  go_upto_region 1 with (fail)
  refine wp_gen (fun W => Below w.heap.size w W ∧ Bk W w.heap.size 67 #[.bool t.c.neg, .slice T1 t.c.num.length tc1, .slice T2 t.c.den.length tc2, .int .i64 t.m.x0, .int .i64 t.m.x1, .int .i64 t.m.x2, .int .i64 t.m.x3]) ⟨(Below.refl _ _).alloc (Nat.le_refl _) _, Bk.new_ _ _ _⟩ ?_
  intro W BX
  have CM := Hd.mk (poly_May b0 order A c ps W (HP.out.up BX.out.1) hc HS.out)
  cases hm : polMay order ps
  · rw [hm] at CM
    have HE : Hd (polTimes order ps t = (1, [])) := ⟨by unfold polTimes; rw [hm]; rfl⟩
    clear hm
    go_wp2_with fail
    refine CM.out.mono ?_
    rintro e w2 ⟨rfl, hb2⟩
    have HB2 := Hd.mk (BX.out.1.trans (hb2.mono BX.out.1.size))
    clear hb2
    go_wp2_with fail
    go_ret2
    rw [HE.out]
    exact ⟨none, 0, rfl, Nat.le_refl _, RPol.nil _ _ _, HB2.out⟩
  · rw [hm] at CM
    have hpl := polMay_len hm
    go_wp2_with fail
    refine CM.out.mono ?_
    rintro e w2 ⟨rfl, hb2⟩
    have HB2 := Hd.mk (BX.out.1.trans (hb2.mono BX.out.1.size))
    have K2 := Hd.mk (BX.out.2.up hb2)
    obtain ⟨⟨a0_, a1_, a2_⟩, a3_, a4_, a5_, a6_⟩ := K2.out.seven
    have CR := Hd.mk (poly_right b0 _ t w2 (HT.out.up HB2.out) HTS.out)
    clear hb2 CM BX
    cases hr : right t
    · rw [hr] at CR
      have HE : Hd (polTimes order ps t = (1, [])) := ⟨by unfold polTimes; rw [hm, hr]; rfl⟩
      clear hm hr
      go_wp2_with fail
      refine CR.out.mono ?_
      rintro e w3 ⟨rfl, hb3⟩
      have HB3 := Hd.mk (HB2.out.trans (hb3.mono HB2.out.size))
      clear hb3
      go_wp2_with fail
      go_ret2
      rw [HE.out]
      exact ⟨none, 0, rfl, Nat.le_refl _, RPol.nil _ _ _, HB3.out⟩
    · rw [hr] at CR
      go_wp2_with fail
      refine CR.out.mono ?_
      rintro e w3 ⟨rfl, hb3⟩
      have HB3 := Hd.mk (HB2.out.trans (hb3.mono HB2.out.size))
      have K3 := Hd.mk (K2.out.up hb3)
      clear hb3 a0_ a1_ a2_ a3_ a4_ a5_ a6_ K2 HB2 CR
      obtain ⟨⟨a0_, a1_, a2_⟩, a3_, a4_, a5_, a6_⟩ := K3.out.seven
      have CZ := Hd.mk (ratio_Zero b0 _ t.c w3 (HRR.out.up HB3.out))
      cases hz : decide (t.c.num.length = 0)
      · rw [hz] at CZ
        have HE : Hd (polTimes order ps t = timesL t ps) := ⟨by
          unfold polTimes
          rw [hm, hr, if_neg (by simp), if_neg (of_decide_eq_false hz)]⟩
        clear hm hr hz
        go_wp2_with fail
        refine CZ.out.mono ?_
        rintro e w4 ⟨rfl, hb4⟩
        have HB4 := Hd.mk (HB3.out.trans (hb4.mono HB3.out.size))
        have K4 := Hd.mk (K3.out.up hb4)
        clear hb4 a0_ a1_ a2_ a3_ a4_ a5_ a6_ K3 HB3 CZ
        have hmk := mkTerms ps.length ps.length rfl (by omega) w4
        go_wp2_with fail
        clear hmk
        have hbn : Below w4.heap.size w4 (w4.alloc (.cells (zrow ps.length) 67)) := (Below.refl _ _).alloc (Nat.le_refl _) _
        have hgn : w.heap.size ≠ w4.heap.size := Nat.ne_of_lt K4.out.lt
        go_loopw [32] (fun v wr => ∃ (i : Nat) (ds : List TermD) (done : List Value), v = .int .i64 i ∧ i ≤ ps.length ∧
          Hd (Tm b0 w4.heap.size w.heap.size ps.length ps.length i w wr #[.bool t.c.neg, .slice T1 t.c.num.length tc1, .slice T2 t.c.den.length tc2, .int .i64 t.m.x0, .int .i64 t.m.x1, .int .i64 t.m.x2, .int .i64 t.m.x3] ds done [] (zrest (ps.length - i))) ∧ Hd (timesL t ps = appD ds (timesL t (ps.drop i)))) (fun v _ => ps.length - (intOf v).toNat)
        case atStart =>
          refine ⟨0, [], [], rfl, by omega, ⟨⟨HB4.out.trans (hbn.mono HB4.out.size), HB0.out, K4.out.up hbn, Nat.le_refl _, hgn, ?_, rfl, .nil⟩⟩, ⟨(appD_nil t ps).symm⟩⟩
          exact own_made ps.length (by omega) w4 w.heap.size HB4.out.size
        case round =>
          obtain ⟨i, ds, done, rfl, hi, hk, hq⟩ := hrel
          obtain ⟨g, hg⟩ : ∃ g, w4.heap.size = g := ⟨_, rfl⟩
          rw [hg] at hk hgn ⊢
          clear hg hbn HB4 K4
          by_cases hlt : i < ps.length
          · obtain ⟨ad, B1, c1, B2, c2, s, rfl, hab, hsi, hrs, q0, q1, q2, q3, q4, q5, q6⟩ := (HP.out.up hk.out.below).get hlt
            have i2 : (i : Int) < ps.length := by omega
            have i3 : (0 : Int) ≤ i := by omega
            have hsm : Hd (s ∈ ps) := ⟨List.mem_of_getElem? hsi.out⟩
            have HD : Hd (ps.drop i = s :: ps.drop (i + 1)) := ⟨by
              have e1 : ps[i] = s := by have := hsi.out; rw [List.getElem?_eq_getElem hlt] at this; injection this
              rw [List.drop_eq_getElem_cons hlt, e1]⟩
            clear hsi
            go_upto_region 10 with (fail)
            refine wp_gen (fun W => Below wr.heap.size wr W ∧ Tm b0 g w.heap.size ps.length ps.length i w W #[.bool t.c.neg, .slice T1 t.c.num.length tc1, .slice T2 t.c.den.length tc2, .int .i64 t.m.x0, .int .i64 t.m.x1, .int .i64 t.m.x2, .int .i64 t.m.x3] ds done zc7 (zrest (ps.length - (i + 1))) ∧ Bk W wr.heap.size 67 #[.bool s.c.neg, .slice B1 s.c.num.length c1, .slice B2 s.c.den.length c2, .int .i64 s.m.x0, .int .i64 s.m.x1, .int .i64 s.m.x2, .int .i64 s.m.x3])
              ⟨(Below.refl _ _).alloc (Nat.le_refl _) _, by
                have h1 := hk.out.up ((Below.refl wr.heap.size wr).alloc (Nat.le_refl _) (Obj.cells #[.bool s.c.neg, .slice B1 s.c.num.length c1, .slice B2 s.c.den.length c2, .int .i64 s.m.x0, .int .i64 s.m.x1, .int .i64 s.m.x2, .int .i64 s.m.x3] 67))
                have h2 := h1.own
                rw [show ps.length - i = (ps.length - (i + 1)) + 1 by omega, zrest_succ, List.nil_append] at h2
                exact ⟨h1.below, h1.s0, h1.box, h1.s2, h1.ne, h2, h1.dl, h1.tcs⟩, Bk.new_ _ _ _⟩ ?_
            intro W BY
            have HRS : Hd (RRat W b0 (.agg #[.bool s.c.neg, .slice B1 s.c.num.length c1, .slice B2 s.c.den.length c2]) s.c) := ⟨by
              have hr2 := hrs.out.up BY.out.1
              obtain ⟨x1, x2, x3, x4, e, y1, y2, y3, y4⟩ := hr2
              simp only [Value.agg.injEq, Array.mk.injEq, List.cons.injEq, Value.slice.injEq, true_and, and_true] at e
              obtain ⟨⟨rfl, rfl⟩, rfl, rfl⟩ := e
              exact ⟨_, _, _, _, rfl, y1, y2, y3, y4⟩⟩
            have hgs : Hd (wr.heap.size ≠ g) := ⟨fun e => by
              obtain ⟨⟨cs, hk2⟩, _⟩ := hk.out.bk
              have := hk2.lt
              omega⟩
            obtain ⟨gs, hgs'⟩ : ∃ gs, wr.heap.size = gs := ⟨_, rfl⟩
            rw [hgs'] at hgs
            have HY := Hd.mk BY.out.2.1
            have HYs := Hd.mk (show Bk W gs 67 _ from hgs' ▸ BY.out.2.2)
            rw [hgs']
            clear hgs' hrs q0 q1 q2 q3 q4 q5 q6 hab hk BY
            obtain ⟨S, hS⟩ : ∃ S, mulD s.c t.c = S := ⟨_, rfl⟩
            obtain ⟨M, hM⟩ : ∃ M, monMul s.m t.m = M := ⟨_, rfl⟩
            have HSM := Hd.mk (And.intro hS hM)
            have CA := Hd.mk (ratio_Mul b0 _ _ s.c t.c W (Nat.le_trans HB0.out HY.out.below.size) HRS.out (HRR.out.up HY.out.below) (HS.out.2 s hsm.out) HTS.out)
            have CB := Hd.mk (fun W => mono_Mul s.m t.m W)
            rw [hS] at CA
            rw [hM] at CB
            clear hS hM HRS
            obtain ⟨⟨a0_, a1_, a2_⟩, a3_, a4_, a5_, a6_⟩ := HYs.out.seven
            obtain ⟨⟨b0_, b1_, b2_⟩, b3_, b4_, b5_, b6_⟩ := HY.out.box.seven
            go_wp2_with fail
            refine CA.out.mono ?_
            rintro e w5 ⟨x, rfl, hx, hb5⟩
            have Y5 := Hd.mk (HY.out.up hb5)
            have Ys5 := Hd.mk (HYs.out.up hb5)
            have HX5 := Hd.mk hx
            obtain ⟨xA, xc, xB, xd, rfl, _, _, _, _⟩ := hx
            clear hb5 CA HY HYs a0_ a1_ a2_ a3_ a4_ a5_ a6_ b0_ b1_ b2_ b3_ b4_ b5_ b6_
            have hi7 : i * 7 + 6 < ps.length * 7 := by omega
            have d0_ : w5.cell? ⟨g, i * 7, none⟩ = some (.bool false) := Y5.out.cell 0 (by decide) (by omega)
            have d1_ : w5.cell? ⟨g, i * 7 + 1, none⟩ = some (.slice none 0 0) := Y5.out.cell 1 (by decide) (by omega)
            have d2_ : w5.cell? ⟨g, i * 7 + 2, none⟩ = some (.slice none 0 0) := Y5.out.cell 2 (by decide) (by omega)
            have fz := fun j => Y5.out.froz j
            go_upto_region 11 with (fail)
            refine wp_gen (fun W => Tm b0 g w.heap.size ps.length ps.length i w W #[.bool t.c.neg, .slice T1 t.c.num.length tc1, .slice T2 t.c.den.length tc2, .int .i64 t.m.x0, .int .i64 t.m.x1, .int .i64 t.m.x2, .int .i64 t.m.x3] ds done [.bool S.2.neg, .slice xA S.2.num.length xc, .slice xB S.2.den.length xd, .int .i64 0, .int .i64 0, .int .i64 0, .int .i64 0] (zrest (ps.length - (i + 1))) ∧ Bk W gs 67 #[.bool s.c.neg, .slice B1 s.c.num.length c1, .slice B2 s.c.den.length c2, .int .i64 s.m.x0, .int .i64 s.m.x1, .int .i64 s.m.x2, .int .i64 s.m.x3] ∧
              RRat W b0 (.agg #[.bool S.2.neg, .slice xA S.2.num.length xc, .slice xB S.2.den.length xd]) S.2)
              ⟨((Y5.out.setc 0 (by simp [zc7]) _).setc 1 (by simp [zc7]) _).setc 2 (by simp [zc7]) _, ((Ys5.out.far hgs.out _).far hgs.out _).far hgs.out _, HX5.out.grown (((set_grown w5 ⟨g, i * 7, none⟩ _).set _ _).set _ _) Y5.out.row⟩ ?_
            intro W6 B6
            clear d0_ d1_ d2_ fz Y5 Ys5 HX5
            obtain ⟨⟨a0_, a1_, a2_⟩, a3_, a4_, a5_, a6_⟩ := B6.out.2.1.seven
            obtain ⟨⟨b0_, b1_, b2_⟩, b3_, b4_, b5_, b6_⟩ := B6.out.1.box.seven
            go_wp2_with fail
            refine (CB.out W6).mono ?_
            rintro e w7 ⟨rfl, hb7⟩
            have Y7 := Hd.mk (B6.out.1.up hb7.lo)
            have X7 := Hd.mk (B6.out.2.2.up hb7.lo)
            clear hb7 CB B6 a0_ a1_ a2_ a3_ a4_ a5_ a6_ b0_ b1_ b2_ b3_ b4_ b5_ b6_
            have d3_ : w7.cell? ⟨g, i * 7 + 3, none⟩ = some (.int .i64 0) := Y7.out.cell 3 (by simp) (by omega)
            have d4_ : w7.cell? ⟨g, i * 7 + 3 + 1, none⟩ = some (.int .i64 0) := Y7.out.cell 4 (by simp) (by omega)
            have d5_ : w7.cell? ⟨g, i * 7 + 3 + 2, none⟩ = some (.int .i64 0) := Y7.out.cell 5 (by simp) (by omega)
            have d6_ : w7.cell? ⟨g, i * 7 + 3 + 3, none⟩ = some (.int .i64 0) := Y7.out.cell 6 (by simp) (by omega)
            have fz := fun j => Y7.out.froz j
            go_upto_region 12 with (fail)
            refine wp_gen (fun W => Tm b0 g w.heap.size ps.length ps.length i w W #[.bool t.c.neg, .slice T1 t.c.num.length tc1, .slice T2 t.c.den.length tc2, .int .i64 t.m.x0, .int .i64 t.m.x1, .int .i64 t.m.x2, .int .i64 t.m.x3] ds done [.bool S.2.neg, .slice xA S.2.num.length xc, .slice xB S.2.den.length xd, .int .i64 M.2.x0, .int .i64 M.2.x1, .int .i64 M.2.x2, .int .i64 M.2.x3] (zrest (ps.length - (i + 1))) ∧
              RRat W b0 (.agg #[.bool S.2.neg, .slice xA S.2.num.length xc, .slice xB S.2.den.length xd]) S.2)
              ⟨(((Y7.out.setc 3 (by simp) _).setc 4 (by simp) _).setc 5 (by simp) _).setc 6 (by simp) _, X7.out.grown ((((set_grown w7 ⟨g, i * 7 + 3, none⟩ _).set _ _).set _ _).set _ _) Y7.out.row⟩ ?_
            intro W8 B8
            clear d3_ d4_ d5_ d6_ fz Y7 X7
            by_cases h0 : S.1 = 0
            · have e1 : (S.1 != 0) = false := by rw [bne_eq_false_iff_eq]; exact h0
              by_cases h1 : M.1 = 0
              · have e2 : (M.1 != 0) = false := by rw [bne_eq_false_iff_eq]; exact h1
                have HQ : Hd (timesL t ps = appD (ds ++ [⟨S.2, M.2⟩]) (timesL t (ps.drop (i + 1)))) := ⟨by
                  rw [hq.out, HD.out, appD_step (by rw [HSM.out.1]; exact h0) (by rw [HSM.out.2]; exact h1), HSM.out.1, HSM.out.2]⟩
                clear h0 h1
                have T9 := Hd.mk (B8.out.1.done_ (s := ⟨S.2, M.2⟩) (by
                  obtain ⟨x1, x2, x3, x4, e, y1, y2, y3, y4⟩ := B8.out.2
                  simp only [Value.agg.injEq, Array.mk.injEq, List.cons.injEq, Value.slice.injEq, true_and, and_true] at e
                  obtain ⟨⟨rfl, rfl⟩, rfl, rfl⟩ := e
                  exact ⟨_, _, _, _, rfl, y1, y2, y3, y4⟩) (rest1 := []) rfl)
                go_wp2_with fail
                go_roundw
                case measure => first | (simp [intOf]; done) | (simp [intOf]; omega)
                case rel => exact ⟨i + 1, _, _, by go_num, by omega, T9, HQ⟩
              · have e2 : (M.1 != 0) = true := by rw [bne_iff_ne]; exact h1
                have HQ : Hd (timesL t ps = (M.1, [])) := ⟨by
                  rw [hq.out, HD.out]
                  unfold timesL
                  rw [HSM.out.1, HSM.out.2, if_neg (by rw [h0]; simp), if_pos h1]
                  unfold appD
                  rw [if_pos h1]⟩
                clear h0 h1
                go_wp2_with fail
                go_ret2
                rw [HE.out, HQ.out]
                exact ⟨none, 0, rfl, Nat.le_refl _, RPol.nil _ _ _, B8.out.1.below⟩
            · have e1 : (S.1 != 0) = true := by rw [bne_iff_ne]; exact h0
              have HQ : Hd (timesL t ps = (S.1, [])) := ⟨by
                rw [hq.out, HD.out]
                unfold timesL
                rw [HSM.out.1, if_pos h0]
                unfold appD
                rw [if_pos h0]⟩
              clear h0
              go_wp2_with fail
              go_ret2
              rw [HE.out, HQ.out]
              exact ⟨none, 0, rfl, Nat.le_refl _, RPol.nil _ _ _, B8.out.1.below⟩
          · have hie : i = ps.length := by omega
            subst hie
            have HQ : Hd (timesL t ps = (0, ds)) := ⟨by
              rw [hq.out, List.drop_length]
              simp [timesL, appD]⟩
            have hown := hk.out.own
            rw [Nat.sub_self, show zrest 0 = [] from rfl, List.append_nil, List.append_nil] at hown
            have hdl : ds.length = ps.length := by
              have e1 := hk.out.dl
              have e2 := hk.out.tcs.len
              omega
            have OT := Hd.mk (show OwnT wr b0 w.heap.size (.slice (some ⟨g, 0, none⟩) ps.length ps.length) ds from ⟨done, by rw [hdl]; exact hown, hk.out.tcs⟩)
            have HDL := Hd.mk hdl
            clear hown hdl hq
            go_wp2_with fail
            go_ret2
            rw [HE.out, HQ.out]
            obtain ⟨A', c', e, hc', _, hr⟩ := OT.out.reads
            injection e with e1 e2 e3
            subst e1 e3
            exact ⟨_, _, (by rw [HDL.out]; rfl), hc', hr, hk.out.below⟩
      · rw [hz] at CZ
        have HE : Hd (polTimes order ps t = (0, [])) := ⟨by
          unfold polTimes
          rw [hm, hr, if_neg (by simp), if_pos (of_decide_eq_true hz)]⟩
        clear hm hr hz
        go_wp2_with fail
        refine CZ.out.mono ?_
        rintro e w4 ⟨rfl, hb4⟩
        have HB4 := Hd.mk (HB3.out.trans (hb4.mono HB3.out.size))
        clear hb4
        go_wp2_with fail
        go_ret2
        rw [HE.out]
        exact ⟨none, 0, rfl, Nat.le_refl _, RPol.nil _ _ _, HB4.out⟩
end Go.Proofs.YtidjbiopneoeeaaGreat
/- The walk of poly.Mul. The condition: short rows. -/
namespace Go.Proofs.YtidjbiopneoeeaaGreat
open Go.RowKit

def mulC (o : Int) (p : List TermD) : List TermD → Int × List TermD
  | [] => (0, [])
  | t :: r => if (polTimes o p t).1 ≠ 0 then ((polTimes o p t).1, []) else appD (polTimes o p t).2 (mulC o p r)
def polMul (o : Int) (p q : List TermD) : Int × List TermD :=
  if (polMay o p && polMay o q) = false then (1, []) else if (mulC o p q).1 ≠ 0 then ((mulC o p q).1, []) else polMake o (mulC o p q).2
theorem appD_app (ds es : List TermD) (q : Int × List TermD) : appD ds (appD es q) = appD (ds ++ es) q := by
  unfold appD
  by_cases h : q.1 ≠ 0
  · simp [h]
  · simp [h]
theorem appD_start (o : Int) (p : List TermD) : ∀ q, appD [] (mulC o p q) = mulC o p q
  | [] => rfl
  | t :: r => by
    unfold mulC
    split
    · rename_i h; simp [appD, h]
    · rw [appD_app]; rfl
theorem timesL_facts (t : TermD) : ∀ p, (timesL t p).2.length ≤ p.length ∧ ∀ s ∈ (timesL t p).2, s.c.short
  | [] => ⟨by simp [timesL], fun s h => by simp [timesL] at h⟩
  | s :: r => by
    obtain ⟨h1, h2⟩ := timesL_facts t r
    unfold timesL
    split
    · exact ⟨by simp, fun s h => by simp at h⟩
    · split
      · exact ⟨by simp, fun s h => by simp at h⟩
      · split
        · exact ⟨by simp, fun s h => by simp at h⟩
        · refine ⟨by simpa using h1, fun u hu => ?_⟩
          rcases List.mem_cons.1 hu with rfl | hu
          · exact mulD_short _ _
          · exact h2 u hu
theorem polTimes_facts (o : Int) (p : List TermD) (t : TermD) : (polTimes o p t).2.length ≤ p.length ∧ ∀ s ∈ (polTimes o p t).2, s.c.short := by
  unfold polTimes
  split
  · exact ⟨by simp, fun s h => by simp at h⟩
  · split
    · exact ⟨by simp, fun s h => by simp at h⟩
    · exact timesL_facts t p

set_option maxHeartbeats 4000000 in
set_option maxRecDepth 100000 in
theorem poly_Mul (b0 : Nat) (order : Int) (A B : Option Addr) (c d : Nat) (ps qs : List TermD) (w : World) (hb0 : b0 ≤ w.heap.size) (h : RPol w b0 A ps) (hc : ps.length ≤ c) (hs : shortP ps) (h' : RPol w b0 B qs) (hc' : qs.length ≤ d) (hs' : shortP qs) :
    Calls Tryz.prog 39 #[.int .i64 order, .slice A ps.length c, .slice B qs.length d] w fun e w' => ∃ A' c', e = .returned (.tuple #[.slice A' (polMul order ps qs).2.length c', .int .i64 (polMul order ps qs).1]) ∧
      (polMul order ps qs).2.length ≤ c' ∧ RPol w' b0 A' (polMul order ps qs).2 ∧ Below w.heap.size w w' := by
  have HP := Hd.mk h
  have HS := Hd.mk hs
  have HQ := Hd.mk h'
  have HS' := Hd.mk hs'
  have HB0 := Hd.mk hb0
  have hl := hs.1
  have hl' := hs'.1
  clear h hs h' hs' hb0
  have CM := Hd.mk (poly_May b0 order A c ps w HP.out hc HS.out)
  cases hm : polMay order ps
  · rw [hm] at CM
    have HE : Hd (polMul order ps qs = (1, [])) := ⟨by unfold polMul; rw [hm]; rfl⟩
    clear hm
    go_enter Tryz.func39, Tryz.ntmps39
    go_wp2_with fail
    refine CM.out.mono ?_
    rintro e w2 ⟨rfl, hb2⟩
    have HB2 := Hd.mk hb2
    clear hb2
    go_wp2_with fail
    go_ret2
    rw [HE.out]
    exact ⟨none, 0, rfl, Nat.le_refl _, RPol.nil _ _ _, HB2.out⟩
  · rw [hm] at CM
    have hpl := polMay_len hm
    have CM2 := Hd.mk (fun W hb => poly_May b0 order B d qs W (HQ.out.up hb) hc' HS'.out)
    cases hm2 : polMay order qs
    · rw [hm2] at CM2
      have HE : Hd (polMul order ps qs = (1, [])) := ⟨by unfold polMul; rw [hm, hm2]; rfl⟩
      clear hm hm2
      go_enter Tryz.func39, Tryz.ntmps39
      go_wp2_with fail
      refine CM.out.mono ?_
      rintro e w2 ⟨rfl, hb2⟩
      have HB2 := Hd.mk hb2
      have CM3 := Hd.mk (CM2.out w2 hb2)
      clear hb2
      go_wp2_with fail
      refine CM3.out.mono ?_
      rintro e w3 ⟨rfl, hb3⟩
      have HB3 := Hd.mk (HB2.out.trans (hb3.mono HB2.out.size))
      clear hb3
      go_wp2_with fail
      go_ret2
      rw [HE.out]
      exact ⟨none, 0, rfl, Nat.le_refl _, RPol.nil _ _ _, HB3.out⟩
    · rw [hm2] at CM2
      have hql := polMay_len hm2
      have HE : Hd (polMul order ps qs = if (mulC order ps qs).1 ≠ 0 then ((mulC order ps qs).1, []) else polMake order (mulC order ps qs).2) := ⟨by unfold polMul; rw [hm, hm2]; rfl⟩
      clear hm hm2
      go_enter Tryz.func39, Tryz.ntmps39
      go_wp2_with fail
      refine CM.out.mono ?_
      rintro e w2 ⟨rfl, hb2⟩
      have HB2 := Hd.mk hb2
      have CM3 := Hd.mk (CM2.out w2 hb2)
      clear hb2 CM
      go_wp2_with fail
      refine CM3.out.mono ?_
      rintro e w3 ⟨rfl, hb3⟩
      have HB3 := Hd.mk (HB2.out.trans (hb3.mono HB2.out.size))
      clear hb3 CM3 HB2
      go_wp2_with fail
      go_loopw [8, 25] (fun v8 v25 wr => ∃ (i : Nat) (ds : List TermD), v25 = .int .i64 i ∧ i ≤ qs.length ∧ ds.length ≤ 60 * i ∧ Hd (OwnT wr b0 w.heap.size v8 ds) ∧ Hd (mulC order ps qs = appD ds (mulC order ps (qs.drop i))) ∧ Hd (∀ s ∈ ds, s.c.short) ∧ Hd (Below w.heap.size w wr)) (fun _ v _ => qs.length - (intOf v).toNat)
      case atStart => exact ⟨0, [], rfl, by omega, by simp, ⟨OwnT.nil _ _ _⟩, ⟨(appD_start _ _ _).symm⟩, ⟨fun s h => by cases h⟩, HB3⟩
      case round =>
        obtain ⟨i, ds, rfl, hi, hdl, ho, hq, hsh, hb⟩ := hrel
        by_cases hlt : i < qs.length
        · obtain ⟨ad, B1, c1, B2, c2, t, rfl, hab, hti, hrt, q0, q1, q2, q3, q4, q5, q6⟩ := (HQ.out.up hb.out).get hlt
          have i2 : (i : Int) < qs.length := by omega
          have i3 : (0 : Int) ≤ i := by omega
          have HD : Hd (qs.drop i = t :: qs.drop (i + 1)) := ⟨by
            have e1 : qs[i] = t := by have := hti.out; rw [List.getElem?_eq_getElem hlt] at this; injection this
            rw [List.drop_eq_getElem_cons hlt, e1]⟩
          have hts := Hd.mk (HS'.out.2 t (List.mem_of_getElem? hti.out))
          obtain ⟨X, hX⟩ : ∃ X, polTimes order ps t = X := ⟨_, rfl⟩
          have HX := Hd.mk hX
          have HXF : Hd (X.2.length ≤ ps.length ∧ ∀ s ∈ X.2, s.c.short) := ⟨by rw [← hX]; exact polTimes_facts _ _ _⟩
          clear hti hX
          go_upto_region 7 with (fail)
          refine wp_gen (fun W => Below wr.heap.size wr W ∧ Bk W wr.heap.size 67 #[.bool t.c.neg, .slice B1 t.c.num.length c1, .slice B2 t.c.den.length c2, .int .i64 t.m.x0, .int .i64 t.m.x1, .int .i64 t.m.x2, .int .i64 t.m.x3]) ⟨(Below.refl _ _).alloc (Nat.le_refl _) _, Bk.new_ _ _ _⟩ ?_
          intro W BY
          have HBW := Hd.mk (hb.out.trans (BY.out.1.mono hb.out.size))
          have OW := Hd.mk (ho.out.up BY.out.1)
          have CT := Hd.mk (poly_Times b0 order A c ps _ t W (Nat.le_trans HB0.out HBW.out.size) (HP.out.up HBW.out) hc HS.out (hrt.out.up BY.out.1) hts.out)
          rw [HX.out] at CT
          obtain ⟨⟨b0_, b1_, b2_⟩, b3_, b4_, b5_, b6_⟩ := BY.out.2.seven
          obtain ⟨gs, hgs⟩ : ∃ gs, wr.heap.size = gs := ⟨_, rfl⟩
          rw [hgs] at b0_ b1_ b2_ b3_ b4_ b5_ b6_ ⊢
          clear hgs q0 q1 q2 q3 q4 q5 q6 hab BY hrt ho hb
          go_wp2_with fail
          refine CT.out.mono ?_
          rintro e w5 ⟨A', c', rfl, hx1, hx2, hb5⟩
          have HB5 := Hd.mk (HBW.out.trans (hb5.mono HBW.out.size))
          by_cases h0 : X.1 = 0
          · have e1 : (X.1 != 0) = false := by rw [bne_eq_false_iff_eq]; exact h0
            have HQ2 : Hd (mulC order ps qs = appD (ds ++ X.2) (mulC order ps (qs.drop (i + 1)))) := ⟨by
              rw [hq.out, HD.out]
              conv => lhs; unfold mulC
              rw [HX.out, if_neg (by rw [h0]; simp), appD_app]⟩
            have hxl : X.2.length ≤ 60 := by have := HXF.out.1; omega
            obtain ⟨cs5, o1, o2⟩ := OW.out.up hb5
            obtain ⟨ds5, r1, r2⟩ := hx2
            have O1 := Hd.mk o1
            have O2 := Hd.mk o2
            have R1 := Hd.mk r1
            have R2 := Hd.mk r2
            obtain ⟨Av, cv, hv, _, _, _⟩ := OW.out.reads
            subst hv
            clear hb5 o1 o2 r1 r2 CT b0_ b1_ b2_ b3_ b4_ b5_ b6_ h0 OW
            obtain ⟨i0, hi0, hz0, hz1, hz2⟩ := info_split Tryz.infTerm
            have x63 : ds.length + X.2.length ≤ maxLen := by unfold maxLen; omega
            have xby : (ds.length + X.2.length) * 88 ≤ 140737488355328 := by omega
            go_wp2_with (at_builtin; refine wpList_append_rd2 _ rfl _ _ 24 25 rfl w.heap.size 67 i0 _ 7 88 Tryz.slTerms Tryz.slPoly hi0 hz0 hz1 hz2 rfl (by decide) _ ds.length cs5 rfl O1.out _ _ X.2.length _ ds5 rfl R1.out R2.out.one x63 xby HB5.out.size ?_)
            intro v' w6 ho6 hg6 hv6
            have O6 := Hd.mk (OwnT.app O1.out O2.out R2.out HB0.out hg6 ho6)
            have HB6 := Hd.mk (grown_below O1.out hg6 HB5.out HB5.out.size)
            have hdl2 : (ds ++ X.2).length ≤ 60 * (i + 1) := by rw [List.length_append]; omega
            clear ho6 hg6 hv6 hi0 hz0 hz1 hz2 x63 xby
            go_wp2_with fail
            go_roundw
            case measure => first | (simp [intOf]; done) | (simp [intOf]; omega)
            case rel => exact ⟨i + 1, ds ++ X.2, by go_num, by omega, hdl2, O6, HQ2, ⟨fun s hs => by
              rcases List.mem_append.1 hs with hs | hs
              · exact hsh.out s hs
              · exact HXF.out.2 s hs⟩, HB6⟩
          · have e1 : (X.1 != 0) = true := by rw [bne_iff_ne]; exact h0
            have HQ2 : Hd (mulC order ps qs = (X.1, [])) := ⟨by
              rw [hq.out, HD.out]
              unfold mulC
              rw [HX.out, if_pos h0]
              unfold appD
              rw [if_pos h0]⟩
            have HF : Hd (polMul order ps qs = (X.1, [])) := ⟨by rw [HE.out, HQ2.out, if_pos h0]⟩
            clear h0 hb5 hx2 hx1
            go_wp2_with fail
            go_ret2
            rw [HF.out]
            exact ⟨none, 0, rfl, Nat.le_refl _, RPol.nil _ _ _, HB5.out⟩
        · have hie : i = qs.length := by omega
          subst hie
          have HQ2 : Hd (mulC order ps qs = (0, ds)) := ⟨by rw [hq.out, List.drop_length]; simp [mulC, appD]⟩
          have HF : Hd (polMul order ps qs = polMake order ds) := ⟨by rw [HE.out, HQ2.out]; rfl⟩
          obtain ⟨Av, cv, rfl, hcv, _, hr⟩ := ho.out.reads
          have CK := Hd.mk (poly_Make b0 order Av cv ds wr (Nat.le_trans HB0.out hb.out.size) hr hcv ⟨by omega, hsh.out⟩)
          clear hr
          go_wp2_with fail
          refine CK.out.mono ?_
          rintro e w4 ⟨A', c', rfl, hc', hr', hb4⟩
          have HC' := Hd.mk hc'
          have HR' := Hd.mk hr'
          have HB4 := Hd.mk (hb.out.trans (hb4.mono hb.out.size))
          clear hb4 hc' hr'
          go_wp2_with fail
          go_ret2
          rw [HF.out]
          exact ⟨A', c', rfl, HC'.out, HR'.out, HB4.out⟩
end Go.Proofs.YtidjbiopneoeeaaGreat
