/- Parts of the proof, joined: each theorem says what it shows. -/
import Derived.Test.YtgjkgkgieeoalaaGreatC32
import Derived.Test.YtgjkgkgieeoalaaGreatC26
import Derived.Test.YtgjkgkgieeoalaaGreatC29
import Derived.Test.YtgjkgkgieeoalaaGreatC30
set_option linter.unusedVariables false
set_option linter.unusedSimpArgs false
set_option maxHeartbeats 24000000
set_option maxRecDepth 100000
namespace Go.Proofs.YtgjkgkgieeoalaaGreat
open Go.RowKit Go.PlainAid
theorem ref_Parse (b0 : Nat) (o : Int) (s : ByteArray) (w : World) (hb0 : b0 ≤ w.heap.size) (hs : s.size ≤ 1000000) :
    Calls Tryz.prog 160 #[.int .i64 o, .string s] w fun e w' => ∃ A c, e = .returned (.tuple #[.slice A (parseD o s).2.length c, .int .i64 (parseD o s).1]) ∧ (parseD o s).2.length ≤ c ∧ RPol w' b0 A (parseD o s).2 ∧ Below w.heap.size w w' := by
 obtain ⟨E, hE⟩ : ∃ E, parseD o s = E := ⟨_, rfl⟩
 rw [hE]
 have HE := Hd.mk hE
 clear hE
 unfold parseD at HE
 have HB0 := Hd.mk hb0
 have hsm : s.size ≤ maxLen := by unfold maxLen; omega
 have HOK := Hd.mk (sumD_ok hsm)
 clear hb0
 by_cases ho : o < 0
 ·have HT : Hd (E = (1, [])) := ⟨by rw [← HE.out, if_pos (.inl ho)]⟩
  clear HE
  go_enter Tryz.func160, Tryz.ntmps160
  go_wp2_with fail
  go_ret2
  rw [HT.out]
  exact ⟨none, 0, rfl, Nat.le_refl _, RPol.nil _ _ _, .refl _ _⟩
 by_cases ho2 : 2 < o
 ·have HT : Hd (E = (1, [])) := ⟨by rw [← HE.out, if_pos (.inr ho2)]⟩
  clear HE
  go_enter Tryz.func160, Tryz.ntmps160
  go_wp2_with fail
  go_ret2
  rw [HT.out]
  exact ⟨none, 0, rfl, Nat.le_refl _, RPol.nil _ _ _, .refl _ _⟩
 have HE1 := Hd.mk (HE.out.symm.trans (if_neg (by omega)))
 have CS := Hd.mk (text_sum s w.heap.size (w.alloc (.cells #[.string s, .int .i64 0, .bool false] 244)) (Bk.new_ _ _ _) hs)
 obtain ⟨⟨ps, bad⟩, hS⟩ : ∃ X, sumD s = X := ⟨_, rfl⟩
 rw [hS] at CS HE1 HOK
 dsimp only [tx] at CS HE1 HOK
 clear hS HE
 go_enter Tryz.func160, Tryz.ntmps160
 go_wp2_with fail
 refine CS.out.mono ?_
 rintro e w3 ⟨v, K, rfl, hop, hk, hg⟩
 have HB3 := Hd.mk (((Below.refl w.heap.size w).alloc (Nat.le_refl _) (.cells #[.string s, .int .i64 0, .bool false] 244)).grown hg (by simp) (fun k e => by injection e with e; omega))
 have HOP := Hd.mk hop
 obtain ⟨q0, q1, q2⟩ := hk.three
 obtain ⟨VA, vc, rfl, hvc, hvm⟩ := hop.reads
 clear hop hk hg CS
 cases bad
 case true =>
  have HT : Hd (E = (100, [])) := ⟨by rw [HE1.out, if_pos (.inl rfl)]⟩
  clear HE1
  go_wp2_with fail
  go_ret2
  rw [HT.out]
  exact ⟨none, 0, rfl, Nat.le_refl _, RPol.nil _ _ _, HB3.out⟩
 by_cases h2 : 2000 < s.size
 ·have h3 : (2000 : Int) < s.size := by omega
  have HT : Hd (E = (100, [])) := ⟨by rw [HE1.out, if_pos (.inr h2)]⟩
  clear HE1 h2
  go_wp2_with fail
  go_ret2
  rw [HT.out]
  exact ⟨none, 0, rfl, Nat.le_refl _, RPol.nil _ _ _, HB3.out⟩
 have h3 : ¬ (2000 : Int) < s.size := by omega
 have HE2 := Hd.mk (HE1.out.trans (if_neg (by simp; omega)))
 have hpl : ps.length ≤ 2002 := by have := HOK.out.2; omega
 clear HE1 h2
 go_upto_region 8 with (fail)
 refine wp_gen (fun W => Below w3.heap.size w3 W ∧ OwnT W b0 w3.heap.size (.slice (some ⟨w3.heap.size, 0, none⟩) 0 0) []) ⟨(Below.refl _ _).alloc (Nat.le_refl _) _, ownT_lit w3 b0 w3.heap.size (Nat.le_refl _)⟩ ?_
 intro W0 hW
 have HB0W := Hd.mk hW.out.1
 have HO0 := Hd.mk hW.out.2
 clear hW q0 q1 q2
 go_wp2_with fail
 go_loopw [8, 9] (fun v8 v9 wr => ∃ (i : Nat) (acc : List TermD), v9 = .int .i64 i ∧ i ≤ ps.length ∧ acc.length = i ∧ Hd (OwnT wr b0 w3.heap.size v8 acc) ∧ Hd (Below w3.heap.size w3 wr) ∧ Hd (termsD ps = appD acc (termsD (ps.drop i))) ∧ Hd (∀ t ∈ acc, t.c.short)) (fun _ v _ => ps.length - (intOf v).toNat)
 case atStart => exact ⟨0, [], rfl, by omega, rfl, HO0, HB0W, ⟨termsD_start ps⟩, ⟨fun t h => by cases h⟩⟩
 case round =>
  clear HO0 HB0W
  obtain ⟨i, acc, rfl, hi, hl, HO, HB, HQ, HS⟩ := hrel
  obtain ⟨Av, cv, rfl, hcv, _, hrv⟩ := HO.out.reads
  have HRV := Hd.mk hrv
  have HL := Hd.mk hl
  clear hrv hl
  by_cases hlt : i < ps.length
  ·have i1 : (i : Int) < ps.length := by omega
   have i0 : (0 : Int) ≤ i := by omega
   obtain ⟨p, hpi⟩ : ∃ p, ps[i]? = some p := ⟨_, List.getElem?_eq_getElem hlt⟩
   have HFO := Hd.mk (HOK.out.1 p (List.mem_of_getElem? hpi))
   have hop := HOP.out.up HB.out
   obtain ⟨cs, hop1, hop2⟩ := hop
   obtain ⟨V, g0, g1, hof⟩ := hop2.get hpi
   obtain ⟨ad, eA, hab, hca⟩ := (Rd.of_own hop1).2 (by omega)
   subst eA
   have q0 := hca _ _ g0
   have q1 := hca _ _ g1
   rw [add_pos _ _ 1 (by omega)] at q1
   obtain ⟨FA, fc, rfl, hfc, hfm⟩ := hof.reads
   have HRF := Hd.mk (Rd.of_own hof)
   have HD : Hd (termsD ps = appD acc (termsD (p :: ps.drop (i + 1)))) := ⟨by
    have e1 : ps[i] = p := by rw [List.getElem?_eq_getElem hlt] at hpi; injection hpi
    rw [HQ.out, List.drop_eq_getElem_cons hlt, e1]⟩
   have CT := Hd.mk (ref_term b0 p FA fc wr (Nat.le_trans HB0.out (Nat.le_trans HB3.out.size HB.out.size)) HRF.out HFO.out (by omega))
   have HN := Hd.mk (fun h => HD.out.trans (termsD_step (ps := ps.drop (i + 1)) (acc := acc) (p := p) h))
   have HE3 := Hd.mk (fun h => HD.out.trans (termsD_bad (ps := ps.drop (i + 1)) (acc := acc) (p := p) h))
   have HTS := Hd.mk (termD_short p)
   obtain ⟨⟨et, t⟩, hT⟩ : ∃ X, termD p = X := ⟨_, rfl⟩
   rw [hT] at CT HN HE3 HTS
   dsimp only [TermD.v] at CT
   dsimp only at HN HE3 HTS
   clear hop1 hop2 hca g0 g1 hof hpi HD hT HQ
   go_wp2_with fail
   refine CT.out.mono ?_
   rintro e w5 ⟨XA, xc, XB, xd, rfl, hr, hb⟩
   have HB5 := Hd.mk (goes HB.out hb)
   have HO5 := Hd.mk (HO.out.up hb)
   have HR5 := Hd.mk hr
   clear hb hr CT q0 q1 HRF HFO
   go_upto_region 12 with (fail)
   refine wp_gen (fun W => Below w3.heap.size w3 W ∧ OwnT W b0 w3.heap.size (.slice Av acc.length cv) acc ∧ Bk W w5.heap.size 68 (t.v XA xc XB xd) ∧ RTerm W b0 (.agg (t.v XA xc XB xd)) t) ⟨goes HB5.out ((Below.refl _ _).alloc (Nat.le_refl _) _), HO5.out.up ((Below.refl _ _).alloc (Nat.le_refl _) _), Bk.new_ _ _ _, HR5.out.up ((Below.refl _ _).alloc (Nat.le_refl _) _)⟩ ?_
   intro W6 h6
   generalize w5.heap.size = g6 at h6 ⊢
   have HB6 := Hd.mk h6.out.1
   have HO6 := Hd.mk h6.out.2.1
   have HR6 := Hd.mk h6.out.2.2.2
   obtain ⟨⟨t0, t1, t2⟩, t3, t4, t5, t6⟩ := h6.out.2.2.1.seven
   clear h6 HB5 HO5 HR5
   by_cases hz : et = 0
   case neg =>
    have e1 : (et != 0) = true := by rw [bne_iff_ne]; exact hz
    have HT : Hd (E = (et, [])) := ⟨by rw [HE2.out, HE3.out hz, if_pos hz]⟩
    clear hz HE3 HN HE2
    go_wp2_with fail
    go_ret2
    rw [HT.out]
    exact ⟨none, 0, rfl, Nat.le_refl _, RPol.nil _ _ _, goes HB3.out HB6.out⟩
   have e1 : (et != 0) = false := by rw [hz]; rfl
   have HN2 := Hd.mk (HN.out hz)
   have HT1 := Hd.mk (rpol_one (t := t) HR6.out 68)
   have XL : Hd (acc.length + [t].length ≤ 1000000) := ⟨by have := HL.out; simp; omega⟩
   clear hz HE3 HN
   go_wp2_with (at_builtin; refine wpList_append_T (w0 := w3) (us := [t]) rfl _ _ 24 24 rfl Tryz.slTerms Tryz.slTerms rfl rfl rfl (HO6.out.up ((Below.refl _ _).alloc (Nat.le_refl _) _)) HT1.out (Nat.le_trans HB0.out HB3.out.size) XL.out (HB6.out.alloc HB6.out.size _) (Nat.le_refl _) (HB6.out.alloc HB6.out.size _).size ?_)
   intro v' w10 AP
   have HAP := Hd.mk AP
   have hl2 : (acc ++ [t]).length = i + 1 := by rw [List.length_append, HL.out]; rfl
   have HSS : Hd (∀ s ∈ acc ++ [t], s.c.short) := ⟨fun s hs => by
    rcases List.mem_append.1 hs with h | h
    ·exact HS.out s h
    ·simp only [List.mem_singleton] at h; subst h; exact HTS.out⟩
   clear AP
   go_wp2_with fail
   go_roundw
   case measure => first | (simp [intOf]; done) | (simp [intOf]; omega)
   case rel => exact ⟨i + 1, _, by go_num, by omega, hl2, ⟨HAP.out.own⟩, ⟨HAP.out.below⟩, HN2, HSS⟩
  ·obtain rfl : i = ps.length := by omega
   have HT : Hd (E = polMake o acc) := ⟨by
    rw [HE2.out, HQ.out, List.drop_eq_nil_of_le (Nat.le_refl _)]
    unfold termsD appD
    simp⟩
   have CM := Hd.mk (rpol_Make b0 o Av cv acc wr (Nat.le_trans HB0.out (Nat.le_trans HB3.out.size HB.out.size)) HRV.out hcv (by have := HL.out; omega) ⟨by have := HL.out; omega, HS.out⟩)
   rw [← HT.out] at CM
   go_wp2_with fail
   refine CM.out.mono ?_
   rintro e w6 ⟨A6, c6, rfl, hc6, hr6, hb6⟩
   have HB6 := Hd.mk (goes HB3.out (goes HB.out hb6))
   have HR6 := Hd.mk hr6
   clear hb6 hr6
   go_wp2_with fail
   go_ret2
   exact ⟨A6, c6, rfl, hc6, HR6.out, HB6.out⟩
end Go.Proofs.YtgjkgkgieeoalaaGreat
namespace Go.Proofs.YtgjkgkgieeoalaaGreat
open Go.RowKit
def negN (r : RatD) (n : Bool) : RatD := ⟨n, r.num, r.den⟩
theorem negD_eq (r : RatD) : negD r = negN r (r.neg != !decide (r.num.length = 0)) := by
 unfold negD negN
 by_cases h : r.num.length = 0
 ·rw [if_pos h, decide_eq_true h]; simp
 ·rw [if_neg h, decide_eq_false h]; simp
theorem ratio_Neg (b0 : Nat) (v : Value) (r : RatD) (w : World) (hb0 : b0 ≤ w.heap.size) (h : RRat w b0 v r) (hr : r.short) :
    Calls Tryz.prog 285 #[v] w fun e w' => ∃ x, e = .returned x ∧ RRat w' b0 x (negD r) ∧ Below w.heap.size w w' := by
 have Z1 := Hd.mk (fun W hW => ratio_Zero b0 v r W hW)
 have HR := Hd.mk h
 have HB0 := Hd.mk hb0
 have HE := Hd.mk (negD_eq r)
 obtain ⟨A, c, B, d, rfl, h1, h2, h3, h4⟩ := h
 have C1 := Hd.mk (fun W (hb : Hd (Below w.heap.size w W)) => clone_nat B d r.den W (h4.rd.up hb.out) h2 (by have := hr.2; omega))
 have C2 := Hd.mk (fun W (hb : Hd (Below w.heap.size w W)) => clone_nat A c r.num W (h3.rd.up hb.out) h1 (by have := hr.1; omega))
 have UU := Hd.mk (And.intro h3.u h4.u)
 obtain ⟨zb, hzb⟩ : ∃ zb, decide (r.num.length = 0) = zb := ⟨_, rfl⟩
 rw [hzb] at Z1 HE
 have CZ := Hd.mk (fun W (hb : Hd (Below w.heap.size w W)) => Z1.out W (HR.out.up hb.out))
 clear h3 h4 hb0 hr hzb Z1
 go_enter Tryz.func285, Tryz.ntmps285
 go_upto_region 1 with (fail)
 refine wp_gen (fun W => Bx2 w.heap.size w.heap.size (w.heap.size + 1) w W 64 #[.bool r.neg, .slice A r.num.length c, .slice B r.den.length d] (.bool false) (.slice none 0 0) (.slice none 0 0)) (Bx2.mk2 w _ _ _ _ _) ?_
 intro W BX
 generalize w.heap.size + 1 = g2 at BX ⊢
 obtain ⟨p0, p1, p2⟩ := BX.out.k1.three
 have n12 := BX.out.n12
 go_wp2_with fail
 go_region_held3 (fun w' => Hd (Below w.heap.size w w') ∧ w'.cell? ⟨w.heap.size, 0, none⟩ = some (.bool r.neg) ∧ w'.cell? ⟨w.heap.size, 1, none⟩ = some (.slice A r.num.length c) ∧ w'.cell? ⟨w.heap.size, 2, none⟩ = some (.slice B r.den.length d))
  (first
   | exact ⟨⟨(BXn.out.done _ _ _).2.1⟩, ((BXn.out.done _ _ _).2.2.2 0).trans hS.2.1, ((BXn.out.done _ _ _).2.2.2 1).trans hS.2.2.1, ((BXn.out.done _ _ _).2.2.2 2).trans hS.2.2.2⟩
   | exact hS
   | exact ⟨⟨BX.out.below⟩, p0, p1, p2⟩
   | exact ⟨⟨(BX.out.dn 1).below⟩, p0, p1, p2⟩
   | fail)
  (first
   | (go_at_call 165; obtain ⟨hB, q1, q2, q3⟩ := ‹Hd (Below w.heap.size w _) ∧ _›; with_reducible refine (CZ.out _ hB).mono ?_; rintro e w3 ⟨rfl, hb⟩
      have BXk := Hd.mk ((BX.out.dn 1).up hb)
      have hS := And.intro (Hd.mk BXk.out.below) (And.intro (cell_up q1 hb) (And.intro (cell_up q2 hb) (cell_up q3 hb))))
   | (go_at_call 170; obtain ⟨hB, q1, q2, q3⟩ := ‹Hd (Below w.heap.size w _) ∧ _›; with_reducible refine (C2.out _ hB).mono ?_; rintro e w4 ⟨x, rfl, ho, hb⟩
      obtain ⟨Ax, cx, rfl, hcx, _, _⟩ := ho.reads
      have BXm := Hd.mk (BXk.out.up hb)
      have hS := And.intro (Hd.mk BXm.out.below) (And.intro (cell_up q1 hb) (And.intro (cell_up q2 hb) (cell_up q3 hb)))
      have HX := Hd.mk ho; clear ho)
   | (go_at_call 170; obtain ⟨hB, q1, q2, q3⟩ := ‹Hd (Below w.heap.size w _) ∧ _›; with_reducible refine (C1.out _ hB).mono ?_; rintro e w5 ⟨y, rfl, ho, hb⟩
      obtain ⟨Ay, cy, rfl, hcy, _, _⟩ := ho.reads
      have BXn := Hd.mk (BXm.out.up hb)
      have hS := And.intro (Hd.mk BXn.out.below) (And.intro (cell_up q1 hb) (And.intro (cell_up q2 hb) (cell_up q3 hb)))
      obtain ⟨p6, p7, p8⟩ := BXn.out.k2.three
      have fz := fun i => BXn.out.k2.froz i
      have HX2 := Hd.mk (HX.out.below hb)
      have HY := Hd.mk ho
      clear ho))
 go_wp2_with fail
 obtain ⟨d1, d2, d3, _⟩ := BXn.out.done (.bool (r.neg != !zb)) (.slice Ax r.num.length cx) (.slice Ay r.den.length cy)
 refine bodyPost_ret (res_rat rfl _ _ g2 #[.bool (r.neg != !zb), .slice Ax r.num.length cx, .slice Ay r.den.length cy] rfl d1 rfl) rfl ?_
 rw [HE.out]
 exact ⟨_, rfl, d3 b0 (negN r (r.neg != !zb)) _ HB0.out ⟨Ax, cx, Ay, cy, rfl, hcx, hcy, (RRow.of_own HX2.out UU.out.1 b0).1, (RRow.of_own HY.out UU.out.2 b0).1⟩, d2⟩
theorem Mat.far {w w' : World} {b0 base g : Nat} {t : TypeId} {cs : Array Value} {V R : Value} {vs : List Value} {r : List TermD} {qs : List (List TermD)} (h : Mat w b0 base V vs R r qs) (hg : w.grownBy w' (some g)) (hk : Bk w g t cs) (hb : b0 ≤ g) (h1 : t ≠ 25) (h2 : t ≠ 68) (h3 : t ≠ 112) : Mat w' b0 base V vs R r qs := by
 refine ⟨World.ownsRow.kept h.out hg ?_, h.len, h.fam.far hg (fun g' e => by injection e with e; subst e; exact ⟨hb, t, cs, hk, h3⟩) fun i p hi => ?_⟩
 ·cases e : V.ownBlock with
  | none => exact .inl rfl
  | some G =>
    refine .inr fun e2 => ?_
    injection e2 with e2
    subst e2
    obtain ⟨⟨ds, hk2⟩, _⟩ := own_bk h.out e
    exact Bk.ne_ hk hk2 h1 rfl
 ·cases e : p.1.ownBlock with
  | none => exact .inl rfl
  | some G =>
    refine .inr fun e2 => ?_
    injection e2 with e2
    subst e2
    obtain ⟨_, _, ds, hk2⟩ := (h.fam.own i p hi).lt e
    exact Bk.ne_ hk hk2 h2 rfl
theorem RPol.at0 {w : World} {b0 : Nat} {A : Option Addr} {ts : List TermD} (h : RPol w b0 A ts) (hn : ts ≠ []) : ∀ ad, A = some ad → ad.block < w.heap.size := fun ad e => by
 have hl : 0 < ts.length := List.length_pos_iff.2 hn
 obtain ⟨ad', _, _, _, _, _, e', hb, _⟩ := h.get hl
 rw [e] at e'
 injection e' with e'
 subst e'
 exact hb
theorem set3_grown (w : World) (g : Nat) (x y z : Value) : w.grownBy (((w.setCell ⟨g, 0, none⟩ x).setCell ⟨g, 1, none⟩ y).setCell ⟨g, 2, none⟩ z) (some g) := ((set_grown w ⟨g, 0, none⟩ x).set 1 y).set 2 z
theorem Mat.cellV {w : World} {b0 base G n c : Nat} {R : Value} {vs : List Value} {r : List TermD} {qs : List (List TermD)} (h : Mat w b0 base (.slice (some ⟨G, 0, none⟩) n c) vs R r qs) {j : Nat} {v : Value} (hj : vs[j]? = some v) : w.cell? ⟨G, j, none⟩ = some v := by
 have h2 := h.out
 have hn : n = vs.length := by
  rcases h2.2 with ⟨e, _⟩ | ⟨g, cap, cur, e, _⟩
  ·cases e
  ·injection e
 have := h2.cells (g := G) rfl j v hj
 rwa [add_win, Nat.zero_add] at this
theorem moveD_eq {o : Int} {p p' b b' q : List TermD} {t u : TermD} {k : Nat} {m : MonD} {I : RatD} {M : Int × RatD} (hp : p = t :: p') (hb : b = u :: b') (hI : (invD u.c).2 = I) (hM : mulD t.c I = M) (hk : ¬ 400 ≤ k) :
    moveD o p b q k m = if M.1 ≠ 0 then (M.1, [], []) else if 60 ≤ q.length then (90, [], []) else if (polTimes o b ⟨negD M.2, m⟩).1 ≠ 0 then ((polTimes o b ⟨negD M.2, m⟩).1, [], []) else
     if (polAdd o [p, (polTimes o b ⟨negD M.2, m⟩).2]).1 ≠ 0 then ((polAdd o [p, (polTimes o b ⟨negD M.2, m⟩).2]).1, [], []) else (0, (polAdd o [p, (polTimes o b ⟨negD M.2, m⟩).2]).2, q ++ [⟨M.2, m⟩]) := by
 subst hp hb hI hM
 exact if_neg hk
theorem cell_grown {w w' : World} {row : Option Nat} {a : Addr} {v : Value} (h : w.cell? a = some v) (hg : w.grownBy w' row) (hne : some a.block ≠ row) : w'.cell? a = some v :=
 (World.cell?_of_block (hg.block _ (World.block_lt_of_cell? w a h) hne)).trans h
theorem OwnT.ne {w : World} {b0 base g : Nat} {u : Value} {q : List TermD} {t : TypeId} {cs : Array Value} (h : OwnT w b0 base u q) (hk : Bk w g t cs) (ht : t ≠ 68) : some g ≠ u.ownBlock := fun e => by
 obtain ⟨_, _, ds, hk2⟩ := h.lt e.symm
 exact Bk.ne_ hk hk2 ht rfl
theorem add_new {b0 : Nat} {o : Int} {p x : List TermD} {Y : Int × List TermD} (hs : shortPs [p, x]) (he : polAdd o [p, x] = Y) {W : World} {A B : Option Addr} {c d : Nat} (hb : b0 ≤ W.heap.size) (hp : RPol W b0 A p) (hx : RPol W b0 B x) (hc : p.length ≤ c) (hd : x.length ≤ d) :
    Calls Tryz.prog 99 #[.int .i64 o, .slice (some ⟨W.heap.size, 0, none⟩) 2 2] (W.alloc (.cells #[.slice A p.length c, .slice B x.length d] 25)).drew fun e w' => ∃ A' c', e = .returned (.tuple #[.slice A' Y.2.length c', .int .i64 Y.1]) ∧ Y.2.length ≤ c' ∧ RPol w' b0 A' Y.2 ∧ Below W.heap.size W w' ∧ Fr W.heap.size A' := by
 subst he
 refine (poly_AddF b0 o (some ⟨W.heap.size, 0, none⟩) 2 [p, x] _ (Nat.le_trans hb (below1 _ _).drew.size) ((rpols_bk2 (p := p) (q := x) (Bk.new_ _ _ _) (hp.up (below1 _ _)) (hx.up (below1 _ _)) hc hd).up (Below.refl _ _).drew) (Nat.le_refl _) hs).mono ?_
 rintro e w' ⟨A', c', h1, h2, h3, h4, h5⟩
 exact ⟨A', c', h1, h2, h3, goes (below1 _ _).drew h4, h5.le (below1 _ _).drew.size⟩
structure Dv (b0 gd : Nat) (o : Int) (L : Option Addr) (cl : Nat) (l : List (List TermD)) (w0 w : World) (A : Option Addr) (c : Nat) (p : List TermD) (V R : Value) (vs : List Value) (r : List TermD) (qs : List (List TermD)) (k : Nat) : Prop where
 below : Below w0.heap.size w0 w
 bb : b0 ≤ w0.heap.size
 bg : w0.heap.size ≤ gd
 kd : Bk w gd 267 #[.int .i64 o, .slice A p.length c, .slice L l.length cl, V, R, .int .i64 k]
 rl : RPols w0 b0 L l
 hcl : l.length ≤ cl
 rp : RPol w b0 A p
 hc : p.length ≤ c
 mat : Mat w b0 w0.heap.size V vs R r qs
 len : qs.length = l.length
 off : p ≠ [] → Off ((R, r) :: vs.zip qs) A ∧ ∀ ad, A = some ad → ad.block ≠ gd ∧ V.ownBlock ≠ some ad.block
section
variable {b0 gd : Nat} {o : Int} {L : Option Addr} {cl : Nat} {l : List (List TermD)} {w0 w w' : World} {A : Option Addr} {c : Nat} {p : List TermD} {V R : Value} {vs : List Value} {r : List TermD} {qs : List (List TermD)} {k : Nat}
theorem Dv.up (h : Dv b0 gd o L cl l w0 w A c p V R vs r qs k) (hb : Below w.heap.size w w') : Dv b0 gd o L cl l w0 w' A c p V R vs r qs k :=
 ⟨goes h.below hb, h.bb, h.bg, h.kd.up hb, h.rl, h.hcl, h.rp.up hb, h.hc, h.mat.up hb, h.len, h.off⟩
theorem Dv.hb0 (h : Dv b0 gd o L cl l w0 w A c p V R vs r qs k) : b0 ≤ w.heap.size := Nat.le_trans h.bb h.below.size
theorem Dv.rok (h : Dv b0 gd o L cl l w0 w A c p V R vs r qs k) : Rok w b0 (some gd) := fun g e => by injection e with e; subst e; exact ⟨Nat.le_trans h.bb h.bg, _, _, h.kd, by decide⟩
theorem Dv.offd (h : Dv b0 gd o L cl l w0 w A c p V R vs r qs k) : p ≠ [] → ∀ ad, A = some ad → (some gd : Option Nat) ≠ some ad.block := fun hn ad e e2 => by
 injection e2 with e2; exact ((h.off hn).2 ad e).1 e2.symm
theorem Dv.matd (h : Dv b0 gd o L cl l w0 w A c p V R vs r qs k) (i : Nat) (v : Value) : Mat (w.setCell ⟨gd, i, none⟩ v) b0 w0.heap.size V vs R r qs :=
 h.mat.far (set_grown w ⟨gd, i, none⟩ v) h.kd (Nat.le_trans h.bb h.bg) (by decide) (by decide) (by decide)
theorem Dv.setk (h : Dv b0 gd o L cl l w0 w A c p V R vs r qs k) (k' : Nat) : Dv b0 gd o L cl l w0 (w.setCell ⟨gd, 5, none⟩ (.int .i64 k')) A c p V R vs r qs k' :=
 ⟨h.below.setCell h.bg _, h.bb, h.bg, h.kd.set_ 5 _, h.rl, h.hcl, h.rp.grown (set_grown w ⟨gd, 5, none⟩ _) h.offd h.rok, h.hc, h.matd _ _, h.len, h.off⟩
theorem Dv.far {g : Nat} {t : TypeId} {cs : Array Value} (h : Dv b0 gd o L cl l w0 w A c p V R vs r qs k) (hg : w.grownBy w' (some g)) (hk : Bk w g t cs) (hb : w0.heap.size ≤ g) (h1 : t ≠ 25) (h2 : t ≠ 68) (h3 : t ≠ 112) (h4 : 267 ≠ t) (hpa : p ≠ [] → ∀ ad, A = some ad → ad.block ≠ g) : Dv b0 gd o L cl l w0 w' A c p V R vs r qs k :=
 ⟨h.below.grown hg h.below.size (fun g' e => by injection e with e; subst e; exact hb), h.bb, h.bg, h.kd.grown hg (fun e => by injection e with e; exact Bk.ne_ h.kd hk h4 e), h.rl, h.hcl, h.rp.grown hg (fun hn ad e e2 => by injection e2 with e2; exact hpa hn ad e e2.symm) (fun g' e => by injection e with e; subst e; exact ⟨Nat.le_trans h.bb hb, t, cs, hk, h3⟩), h.hc, h.mat.far hg hk (Nat.le_trans h.bb hb) h1 h2 h3, h.len, h.off⟩
theorem Dv.setp (h : Dv b0 gd o L cl l w0 w A c p V R vs r qs k) {A' : Option Addr} {c' : Nat} {p' : List TermD} (hr : RPol w b0 A' p') (hc' : p'.length ≤ c') (hf : p' ≠ [] → Off ((R, r) :: vs.zip qs) A' ∧ ∀ ad, A' = some ad → ad.block ≠ gd ∧ V.ownBlock ≠ some ad.block) :
    Dv b0 gd o L cl l w0 (w.setCell ⟨gd, 1, none⟩ (.slice A' p'.length c')) A' c' p' V R vs r qs k :=
 ⟨h.below.setCell h.bg _, h.bb, h.bg, h.kd.set_ 1 _, h.rl, h.hcl, hr.grown (set_grown w ⟨gd, 1, none⟩ _) (fun hn ad e e2 => by injection e2 with e2; exact ((hf hn).2 ad e).1 e2.symm) h.rok, hc', h.matd _ _, h.len, hf⟩
theorem Dv.fresh (h : Dv b0 gd o L cl l w0 w A c p V R vs r qs k) {A' : Option Addr} (hf : Fr w.heap.size A') : Off ((R, r) :: vs.zip qs) A' ∧ ∀ ad, A' = some ad → ad.block ≠ gd ∧ V.ownBlock ≠ some ad.block :=
 ⟨Off.fresh h.mat.fam hf, fun ad e => by
  have h1 := hf ad e
  have h2 := h.kd.lt
  refine ⟨by omega, fun e2 => ?_⟩
  obtain ⟨⟨cs, hk⟩, _⟩ := own_bk h.mat.out e2
  have := hk.lt
  omega⟩
theorem Dv.quot (h : Dv b0 gd o L cl l w0 w A c p V R vs r qs k) {i G n cV : Nat} {v v' : Value} {q us : List TermD} (hV : V = .slice (some ⟨G, 0, none⟩) n cV) (hv : vs[i]? = some v) (hq : qs[i]? = some q) (AP : Apg b0 w0.heap.size w w' v v' q us) :
    Dv b0 gd o L cl l w0 (w'.setCell ⟨G, i, none⟩ v') A c p V R (vs.set i v') r (qs.set i (q ++ us)) k := by
 subst hV
 have ho := h.mat.fam.own (i + 1) (v, q) (h.mat.zip_at hv hq)
 have hrok : Rok w b0 v.ownBlock := ho.rok h.bb
 obtain ⟨m1, m2⟩ := h.mat.inner h.bb hv hq AP.grow AP.own AP.at_
 have hn : n = vs.length := by
  rcases h.mat.out.2 with ⟨e, _⟩ | ⟨g, cap, cur, e, _⟩
  ·cases e
  ·injection e
 have hG := own_bk h.mat.out (gp := G) rfl
 obtain ⟨⟨cs, hkG⟩, hbG⟩ := hG
 obtain ⟨⟨cs', hkG'⟩, _⟩ := own_bk m1 (gp := G) rfl
 have hgd : some gd ≠ v.ownBlock := fun e => by
  obtain ⟨_, _, ds, hk2⟩ := ho.lt e.symm
  exact Bk.ne_ h.kd hk2 (by decide) rfl
 have hkd : Bk w' gd _ _ := h.kd.grown AP.grow hgd
 have hbl : Below w0.heap.size w0 w' := h.below.grown AP.grow h.below.size fun g e => (ho.lt e).2.1
 have hrp : RPol w' b0 A p := h.rp.grown AP.grow (fun hn ad e e2 => (h.off hn).1 (i + 1) (v, q) (h.mat.zip_at hv hq) ad e e2) hrok
 refine ⟨hbl.setCell hbG _, h.bb, h.bg, hkd.far (p := ⟨G, i, none⟩) (fun e => Bk.ne_ hkd hkG' (by decide) e) _, h.rl, h.hcl, hrp.grown (set_grown w' ⟨G, i, none⟩ _) (fun hn ad e e2 => ((h.off hn).2 ad e).2 e2) (fun g e => by injection e with e; subst e; exact ⟨Nat.le_trans h.bb hbG, _, _, hkG', by decide⟩), h.hc, ?_, by rw [List.length_set]; exact h.len, fun hne => ⟨?_, (h.off hne).2⟩⟩
 ·exact Mat.store (by rw [hn]; rw [hn] at m1; exact m1) hn h.mat.len h.bb m2
 ·have := (h.off hne).1.app (i := i + 1) (p := (v, q)) (q := (v', q ++ us)) (h.mat.zip_at hv hq) (h.rp.at0 hne) AP.at_
  rw [List.set_cons_succ, zip_set] at this
  exact this
end
end Go.Proofs.YtgjkgkgieeoalaaGreat
