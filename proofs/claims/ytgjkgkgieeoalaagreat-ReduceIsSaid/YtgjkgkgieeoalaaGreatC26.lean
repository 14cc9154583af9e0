/- Parts of the proof, joined: each theorem says what it shows. -/
import Derived.Test.YtgjkgkgieeoalaaGreatC25
import Derived.Test.YtgjkgkgieeoalaaGreatC21
import Derived.Test.YtgjkgkgieeoalaaGreatC23
set_option linter.unusedVariables false
set_option linter.unusedSimpArgs false
set_option maxHeartbeats 24000000
set_option maxRecDepth 100000
namespace Go.Proofs.YtgjkgkgieeoalaaGreat
open Go.RowKit
theorem putD_short {o : Int} {al : List TermD} {t : TermD} (h : ∀ s ∈ al, s.c.short) (ht : t.c.short) : (∀ s ∈ (putD o al t).2, s.c.short) ∧ (putD o al t).2.length ≤ al.length + 1 := by
 unfold putD
 split
 ·split
  ·exact ⟨fun s (hs : s ∈ []) => (by cases hs), Nat.zero_le _⟩
  ·refine ⟨fun s hs => ?_, by unfold setM; simp⟩
   unfold setM at hs
   rw [List.mem_map] at hs
   obtain ⟨p, hp, e⟩ := hs
   split at e
   ·subst e; exact addD_short _ _
   ·subst e; exact h p hp
 ·refine ⟨fun s hs => ?_, by rw [insD_len]; exact Nat.le_refl _⟩
  rcases mem_insD.1 hs with rfl | hs
  ·exact ht
  ·exact h s hs
theorem polMake_odd {o : Int} {ts : List TermD} {i : Nat} {t : TermD} (h : ts[i]? = some t) (hr : right t = false) : polMake o ts = (1, []) := by
 unfold polMake
 rw [if_pos]
 have : anyOdd ts = true := by
  unfold anyOdd
  rw [List.any_eq_true]
  exact ⟨t, List.mem_of_getElem? h, by rw [hr]; rfl⟩
 rw [this]; simp
theorem rpol_MakeF (b0 : Nat) (order : Int) (A : Option Addr) (c : Nat) (ts : List TermD) (w : World) (hb0 : b0 ≤ w.heap.size) (h : RPol w b0 A ts) (hc : ts.length ≤ c) (h9 : ts.length ≤ 50000) (hs : shortP ts) :
    Calls Tryz.prog 87 #[.int .i64 order, .slice A ts.length c] w fun e w' => ∃ A' c', e = .returned (.tuple #[.slice A' (polMake order ts).2.length c', .int .i64 (polMake order ts).1]) ∧
     (polMake order ts).2.length ≤ c' ∧ RPol w' b0 A' (polMake order ts).2 ∧ Below w.heap.size w w' ∧ Fr w.heap.size A' := by
 have HP := Hd.mk h
 have HS := Hd.mk hs
 have HB0 := Hd.mk hb0
 have CO := Hd.mk (rpol_ordered order w)
 clear h hs hb0
 obtain ⟨E, hE⟩ : ∃ E, polMake order ts = E := ⟨_, rfl⟩
 rw [hE]
 have HE := Hd.mk hE
 clear hE
 obtain ⟨ob, hob⟩ : ∃ ob, ordered order = ob := ⟨_, rfl⟩
 rw [hob] at CO
 have HO := Hd.mk hob
 clear hob
 cases ob
 ·have HF : Hd (E = (1, [])) := ⟨by rw [← HE.out]; unfold polMake; rw [HO.out]; rfl⟩
  go_enter Tryz.func87, Tryz.ntmps87
  go_wp2_with fail
  refine CO.out.mono ?_
  rintro e w2 ⟨rfl, rfl⟩
  go_wp2_with fail
  go_ret2
  rw [HF.out]
  exact ⟨none, 0, rfl, Nat.le_refl _, RPol.nil _ _ _, .refl _ _, Fr.none _⟩
 go_enter Tryz.func87, Tryz.ntmps87
 go_wp2_with fail
 refine CO.out.mono ?_
 rintro e w2 ⟨rfl, rfl⟩
 clear CO
 go_wp2_with fail
 go_loopw [6] (fun v wr => ∃ i : Nat, v = .int .i64 i ∧ i ≤ ts.length ∧ Hd (Below w.heap.size w wr) ∧ Hd (∀ s ∈ ts.take i, right s = true)) (fun v _ => ts.length - (intOf v).toNat)
 case atStart => exact ⟨0, rfl, by omega, ⟨.refl _ _⟩, ⟨by simp⟩⟩
 case round =>
  obtain ⟨i, rfl, hi, hb, ha⟩ := hrel
  by_cases hlt : i < ts.length
  ·have i1 : (i : Int) < ts.length := by omega
   have i3 : (0 : Int) ≤ i := by omega
   obtain ⟨ad, B1, c1, B2, c2, t, rfl, hab, ht, hrt, q0, q1, q2, q3, q4, q5, q6⟩ := (HP.out.up hb.out).get hlt
   obtain ⟨k0, k1, k2, k3, k4, k5, k6⟩ := Wd.at7 q0 q1 q2 q3 q4 q5 q6
   have hst := HS.out.2 t (List.mem_of_getElem? ht.out)
   have C1 := Hd.mk (rrat_May b0 _ t.c wr hrt.out.rat hst)
   have C2 := Hd.mk (rmon_May t.m)
   have HR : Hd (right t = (ratMay t.c && monMay t.m)) := ⟨rfl⟩
   have HG : Hd (right t = true → ∀ s ∈ ts.take (i + 1), right s = true) := ⟨fun hr s hs => by
    have e1 : ts[i] = t := by have := ht.out; rw [List.getElem?_eq_getElem hlt] at this; injection this
    rw [List.take_succ_eq_append_getElem hlt, e1, List.mem_append, List.mem_singleton] at hs
    rcases hs with hs | rfl
    ·exact ha.out s hs
    ·exact hr⟩
   have HN := Hd.mk (fun hr => HE.out.symm.trans (polMake_odd (o := order) ht.out hr))
   clear hst ht q3 q4 q5 q6
   cases hm1 : ratMay t.c
   ·rw [hm1] at C1
    have HF := Hd.mk (HN.out (by rw [HR.out, hm1]; rfl))
    clear hm1
    go_wp2_with fail
    refine C1.out.mono ?_
    rintro e w3 ⟨rfl, hb3⟩
    have HB3 := Hd.mk (goes hb.out hb3)
    clear hb3
    go_wp2_with fail
    go_ret2
    rw [HF.out]
    exact ⟨none, 0, rfl, Nat.le_refl _, RPol.nil _ _ _, HB3.out, Fr.none _⟩
   rw [hm1] at C1 HR
   clear hm1
   go_wp2_with fail
   refine C1.out.mono ?_
   rintro e w3 ⟨rfl, hb3⟩
   have HB3 := Hd.mk (goes hb.out hb3)
   have k3 := k3 ⟨w3, hb3⟩
   have k4 := k4 ⟨w3, hb3⟩
   have k5 := k5 ⟨w3, hb3⟩
   have k6 := k6 ⟨w3, hb3⟩
   simp only [Wd.w] at k3 k4 k5 k6
   clear hb3 k0 k1 k2 C1 q0 q1 q2
   cases hm2 : monMay t.m
   ·rw [hm2] at C2
    have HF := Hd.mk (HN.out (by rw [HR.out, hm2]; rfl))
    clear hm2
    go_wp2_with fail
    refine (C2.out _).mono ?_
    rintro e w4 ⟨rfl, hb4⟩
    have HB4 := Hd.mk (goes HB3.out hb4)
    clear hb4
    go_wp2_with fail
    go_ret2
    rw [HF.out]
    exact ⟨none, 0, rfl, Nat.le_refl _, RPol.nil _ _ _, HB4.out, Fr.none _⟩
   ·rw [hm2] at C2
    have HF := Hd.mk (HG.out (by rw [HR.out, hm2]; rfl))
    clear hm2
    go_wp2_with fail
    refine (C2.out _).mono ?_
    rintro e w4 ⟨rfl, hb4⟩
    have HB4 := Hd.mk (goes HB3.out hb4)
    clear hb4
    go_wp2_with fail
    go_roundw
    case measure => first | (simp [intOf]; done) | (simp [intOf]; omega)
    case rel => exact ⟨i + 1, by go_num, by omega, HB4, HF⟩
  ·obtain rfl : i = ts.length := by omega
   have HR : Hd (∀ s ∈ ts, right s = true) := ⟨by have := ha.out; rwa [List.take_length] at this⟩
   have HE2 : Hd (E = if (putAll order [] ts).1 ≠ 0 then ((putAll order [] ts).1, []) else if 60 < ((putAll order [] ts).2.filter nz).length then (90, []) else (0, (putAll order [] ts).2.filter nz)) := ⟨by
    rw [← HE.out]
    unfold polMake
    have : anyOdd ts = false := by
     unfold anyOdd
     rw [List.any_eq_false]
     intro s hs
     rw [HR.out s hs]; simp
    rw [HO.out, this, if_neg (by simp)]⟩
   have HOK := Hd.mk (ordered_ok.1 HO.out)
   clear ha HE
   go_upto_region 9 with (fail)
   refine wp_gen (fun W => Below w.heap.size w W ∧ RPol W b0 (some ⟨wr.heap.size, 0, none⟩) []) ⟨hb.out.alloc hb.out.size _, RPol.nil _ _ _⟩ ?_
   intro W0 hW
   have HB := Hd.mk hW.out.1
   have H0 := Hd.mk hW.out.2
   clear hW hb
   generalize wr.heap.size = g0 at H0 ⊢
   go_wp2_with fail
   go_loopw [7, 8] (fun v7 v8 wr => ∃ (i : Nat) (al : List TermD) (A' : Option Addr) (c' : Nat), v8 = .int .i64 i ∧ v7 = .slice A' al.length c' ∧ i ≤ ts.length ∧ al.length ≤ i ∧ al.length ≤ c' ∧ Hd (RPol wr b0 A' al) ∧ Hd (Sta order al ∧ ∀ s ∈ al, s.c.short) ∧ Hd (putAll order al (ts.drop i) = putAll order [] ts) ∧ Hd (Below w.heap.size w wr)) (fun _ v _ => ts.length - (intOf v).toNat)
   case atStart => exact ⟨0, [], _, _, rfl, rfl, by omega, by simp, Nat.le_refl _, H0, ⟨.nil HOK.out, fun s h => by cases h⟩, ⟨rfl⟩, HB⟩
   case round =>
    clear H0 HB
    obtain ⟨i, al, A', c', rfl, rfl, hi, hal, hac, HA, HST, HQ, HB⟩ := hrel
    by_cases hlt : i < ts.length
    ·have i1 : (i : Int) < ts.length := by omega
     have i3 : (0 : Int) ≤ i := by omega
     obtain ⟨ad, B1, c1, B2, c2, t, rfl, hab, ht, hrt, q0, q1, q2, q3, q4, q5, q6⟩ := (HP.out.up HB.out).get hlt
     have hst := HS.out.2 t (List.mem_of_getElem? ht.out)
     have hmt : monMay t.m = true := by
      have := HR.out t (List.mem_of_getElem? ht.out)
      unfold right at this
      rw [Bool.and_eq_true] at this
      exact this.2
     have CP := Hd.mk (rpol_put b0 order A' c' al _ t wr (Nat.le_trans HB0.out HB.out.size) HA.out hac (by omega) ⟨by omega, HST.out.2⟩ hrt.out hst hmt HST.out.1)
     have HD : Hd (putAll order [] ts = if (putD order al t).1 ≠ 0 then ((putD order al t).1, []) else putAll order (putD order al t).2 (ts.drop (i + 1))) := ⟨by
      have e1 : ts[i] = t := by have := ht.out; rw [List.getElem?_eq_getElem hlt] at this; injection this
      rw [← HQ.out, List.drop_eq_getElem_cons hlt, e1]; rfl⟩
     have HN : Hd ((putD order al t).1 = 0 → Sta order (putD order al t).2) := ⟨fun he => HST.out.1.putD hmt he⟩
     have HSH := Hd.mk (putD_short (o := order) (al := al) (t := t) HST.out.2 hst)
     obtain ⟨X1, X2, hX⟩ : ∃ X1 X2, putD order al t = (X1, X2) := ⟨_, _, rfl⟩
     rw [hX] at CP HD HN HSH
     clear hst hmt ht hX hrt
     go_wp2_with fail
     refine CP.out.mono ?_
     rintro e w3 ⟨A3, c3, rfl, hc3, hr3, hb3⟩
     have HB3 := Hd.mk (goes HB.out hb3)
     have HA3 := Hd.mk hr3
     have hl3 : X2.length ≤ i + 1 := Nat.le_trans HSH.out.2 (by omega)
     clear hb3 hr3 q0 q1 q2 q3 q4 q5 q6 CP
     by_cases he : X1 = 0
     ·have e1 : (X1 != 0) = false := by rw [bne_eq_false_iff_eq]; exact he
      have HD2 : Hd (putAll order X2 (ts.drop (i + 1)) = putAll order [] ts) := ⟨by rw [HD.out, if_neg (by simpa using he)]⟩
      have HST2 : Hd (Sta order X2 ∧ ∀ s ∈ X2, s.c.short) := ⟨HN.out he, HSH.out.1⟩
      clear he
      go_wp2_with fail
      go_roundw
      case measure => first | (simp [intOf]; done) | (simp [intOf]; omega)
      case rel => exact ⟨i + 1, X2, A3, c3, by go_num, rfl, by omega, hl3, hc3, HA3, HST2, HD2, HB3⟩
     ·have e1 : (X1 != 0) = true := by rw [bne_iff_ne]; exact he
      have HF : Hd (E = (X1, [])) := ⟨by
       have hp : putAll order [] ts = (X1, []) := HD.out.trans (if_pos he)
       rw [HE2.out, hp]; exact if_pos he⟩
      clear he
      go_wp2_with fail
      go_ret2
      rw [HF.out]
      exact ⟨none, 0, rfl, Nat.le_refl _, RPol.nil _ _ _, HB3.out, Fr.none _⟩
    ·obtain rfl : i = ts.length := by omega
     have HQ2 : Hd (putAll order [] ts = (0, al)) := ⟨by rw [← HQ.out, List.drop_eq_nil_of_le (Nat.le_refl _)]; rfl⟩
     have HE3 : Hd (E = if 60 < (al.filter nz).length then (90, []) else (0, al.filter nz)) := ⟨by rw [HE2.out, HQ2.out, if_neg (by simp)]⟩
     have HAS := Hd.mk HST.out.2
     obtain ⟨wA, hwA⟩ : ∃ x, x = wr := ⟨wr, rfl⟩
     subst hwA
     have HB0A := Hd.mk (Nat.le_trans HB0.out HB.out.size)
     clear HQ HQ2 HE2 HST
     go_upto_region 17 with (fail)
     refine wp_gen (fun W => Below wA.heap.size wA W ∧ OwnT W b0 wA.heap.size (.slice (some ⟨wA.heap.size, 0, none⟩) 0 0) []) ⟨(Below.refl _ _).alloc (Nat.le_refl _) _, ownT_lit wA b0 wA.heap.size (Nat.le_refl _)⟩ ?_
     intro W1 hW
     have HO1 := Hd.mk hW.out.2
     have HB1 := Hd.mk hW.out.1
     clear hW
     go_wp2_with fail
     go_loopw [11, 12] (fun v11 v12 wr => ∃ (i : Nat) (acc : List TermD), v12 = .int .i64 i ∧ i ≤ al.length ∧ acc.length ≤ i ∧ Hd (OwnT wr b0 wA.heap.size v11 acc) ∧ Hd (acc = (al.take i).filter nz) ∧ Hd (Below wA.heap.size wA wr)) (fun _ v _ => al.length - (intOf v).toNat)
     case atStart => exact ⟨0, [], rfl, by omega, by simp, HO1, ⟨rfl⟩, HB1⟩
     case round =>
      clear HO1 HB1
      obtain ⟨i, acc, rfl, hi, hacc, HO, HQ, HB2⟩ := hrel
      obtain ⟨Av, cv, rfl, hcv, _, hrv⟩ := HO.out.reads
      have HRV := Hd.mk hrv
      clear hrv
      by_cases hlt : i < al.length
      ·have i1 : (i : Int) < al.length := by omega
       have i3 : (0 : Int) ≤ i := by omega
       obtain ⟨ad, B1, c1, B2, c2, t, rfl, hab, ht, hrt, q0, q1, q2, q3, q4, q5, q6⟩ := (HA.out.up HB2.out).get hlt
       have CZ := Hd.mk (rrat_Zero b0 _ t.c wr hrt.out.rat)
       have HT : Hd ((al.take (i + 1)).filter nz = acc ++ [t].filter nz) := ⟨by
        have e1 : al[i] = t := by have := ht.out; rw [List.getElem?_eq_getElem hlt] at this; injection this
        rw [List.take_succ_eq_append_getElem hlt, e1, List.filter_append, HQ.out]⟩
       obtain ⟨zb, hzb⟩ : ∃ zb, decide (t.c.num.length = 0) = zb := ⟨_, rfl⟩
       have HZ : Hd (nz t = !zb) := ⟨by unfold nz; rw [hzb]⟩
       rw [hzb] at CZ
       clear hzb HQ ht
       cases zb
       ·have HT2 : Hd (acc ++ [t] = (al.take (i + 1)).filter nz) := ⟨by rw [HT.out, List.filter_cons, HZ.out]; rfl⟩
        have xl : acc.length + [t].length ≤ 1000000 := by simp; omega
        have XL := Hd.mk xl
        clear HT HZ xl
        go_wp2_with fail
        refine CZ.out.mono ?_
        rintro e w4 ⟨rfl, hb4⟩
        have HB4 := Hd.mk (goes HB2.out hb4)
        have HO4 := Hd.mk (HO.out.up hb4)
        have HT4 := Hd.mk (hrt.out.up hb4)
        have r0 := cell_up q0 hb4
        have r1 := cell_up q1 hb4
        have r2 := cell_up q2 hb4
        have r3 := cell_up q3 hb4
        have r4 := cell_up q4 hb4
        have r5 := cell_up q5 hb4
        have r6 := cell_up q6 hb4
        clear hb4 q0 q1 q2 q3 q4 q5 q6 CZ hrt
        go_wp2_with (at_builtin; refine wpList_append_T (w0 := wA) (us := [t]) rfl _ _ 25 25 rfl Tryz.slPoly Tryz.slPoly rfl rfl rfl (HO4.out.up ((Below.refl _ _).alloc (Nat.le_refl _) _)) (rpol_one HT4.out _) HB0A.out XL.out (goes HB4.out ((Below.refl _ _).alloc (Nat.le_refl _) _)) (Nat.le_refl _) (goes HB4.out ((Below.refl _ _).alloc (Nat.le_refl _) _)).size ?_)
        intro v' w8 AP
        have HAP := Hd.mk AP
        clear AP
        have hl8 : (acc ++ [t]).length ≤ i + 1 := by simp; omega
        go_wp2_with fail
        go_roundw
        case measure => first | (simp [intOf]; done) | (simp [intOf]; omega)
        case rel => exact ⟨i + 1, acc ++ [t], by go_num, by omega, hl8, ⟨HAP.out.own⟩, HT2, ⟨HAP.out.below⟩⟩
       ·have HT2 : Hd (acc = (al.take (i + 1)).filter nz) := ⟨by rw [HT.out, List.filter_cons, HZ.out]; simp⟩
        clear HT HZ
        go_wp2_with fail
        refine CZ.out.mono ?_
        rintro e w4 ⟨rfl, hb4⟩
        have HB4 := Hd.mk (goes HB2.out hb4)
        have HO4 := Hd.mk (HO.out.up hb4)
        clear hb4 CZ hrt
        go_wp2_with fail
        go_roundw
        case measure => first | (simp [intOf]; done) | (simp [intOf]; omega)
        case rel => exact ⟨i + 1, acc, by go_num, by omega, by omega, HO4, HT2, HB4⟩
      ·obtain rfl : i = al.length := by omega
       have HQ2 : Hd (E = if 60 < acc.length then (90, []) else (0, acc)) := ⟨by rw [HE3.out, HQ.out, List.take_length]⟩
       clear HQ
       by_cases h60 : 60 < acc.length
       ·have HF : Hd (E = (90, [])) := ⟨by rw [HQ2.out, if_pos h60]⟩
        clear HQ2
        go_wp2_with fail
        go_ret2
        rw [HF.out]
        exact ⟨none, 0, rfl, Nat.le_refl _, RPol.nil _ _ _, goes HB.out HB2.out, Fr.none _⟩
       ·have HF : Hd (E = (0, acc)) := ⟨by rw [HQ2.out, if_neg h60]⟩
        clear HQ2
        go_wp2_with fail
        go_ret2
        rw [HF.out]
        exact ⟨Av, cv, rfl, hcv, HRV.out, goes HB.out HB2.out, HO.out.fr HB.out.size⟩
theorem rpol_Make (b0 : Nat) (order : Int) (A : Option Addr) (c : Nat) (ts : List TermD) (w : World) (hb0 : b0 ≤ w.heap.size) (h : RPol w b0 A ts) (hc : ts.length ≤ c) (h9 : ts.length ≤ 50000) (hs : shortP ts) :
    Calls Tryz.prog 87 #[.int .i64 order, .slice A ts.length c] w fun e w' => ∃ A' c', e = .returned (.tuple #[.slice A' (polMake order ts).2.length c', .int .i64 (polMake order ts).1]) ∧
     (polMake order ts).2.length ≤ c' ∧ RPol w' b0 A' (polMake order ts).2 ∧ Below w.heap.size w w' :=
 (rpol_MakeF b0 order A c ts w hb0 h hc h9 hs).mono fun _ _ ⟨A', c', h1, h2, h3, h4, _⟩ => ⟨A', c', h1, h2, h3, h4⟩
theorem putAll_short {o : Int} : ∀ {ts al : List TermD}, (∀ s ∈ al, s.c.short) → (∀ s ∈ ts, s.c.short) → ∀ s ∈ (putAll o al ts).2, s.c.short
 | [], al, h, _ => h
 | t :: ts, al, h, ht => by
   unfold putAll
   split
   ·intro s hs; cases hs
   ·exact putAll_short (putD_short h (ht t (by simp))).1 (fun s hs => ht s (by simp [hs]))
theorem polMake_short {o : Int} {ts : List TermD} (h : ∀ s ∈ ts, s.c.short) : shortP (polMake o ts).2 ∧ (polMake o ts).2.length ≤ 60 := by
 unfold polMake
 split
 ·exact ⟨⟨by simp, fun s hs => by cases hs⟩, by simp⟩
 ·split
  ·exact ⟨⟨by simp, fun s hs => by cases hs⟩, by simp⟩
  ·split
   ·exact ⟨⟨by simp, fun s hs => by cases hs⟩, by simp⟩
   ·rename_i h60
    have hl : ((putAll o [] ts).2.filter nz).length ≤ 60 := Nat.le_of_not_lt h60
    exact ⟨⟨Nat.le_trans hl (by decide), fun s hs => putAll_short (fun _ h => by cases h) h s (List.mem_filter.1 hs).1⟩, hl⟩
theorem timesL_cons {t s : TermD} {r : List TermD} : timesL t (s :: r) = if (mulD s.c t.c).1 ≠ 0 then ((mulD s.c t.c).1, []) else if (monMul s.m t.m).1 ≠ 0 then ((monMul s.m t.m).1, [])
    else if (timesL t r).1 ≠ 0 then ((timesL t r).1, []) else (0, ⟨(mulD s.c t.c).2, (monMul s.m t.m).2⟩ :: (timesL t r).2) := rfl
theorem below_set4 {w0 w : World} {g : Nat} (h : Below w0.heap.size w0 w) (hg : w0.heap.size ≤ g) (x y z u : Value) : Below w0.heap.size w0 ((((w.setCell ⟨g, 0, none⟩ x).setCell ⟨g, 1, none⟩ y).setCell ⟨g, 2, none⟩ z).setCell ⟨g, 3, none⟩ u) :=
 (((h.setCell hg _).setCell hg _).setCell hg _).setCell hg _
def polMonic (o : Int) (p : List TermD) : Int × List TermD :=
 if polMay o p = false then (1, []) else match p with
 | [] => (0, [])
 | t :: _ => if (invD t.c).1 ≠ 0 then ((invD t.c).1, []) else polTimes o p ⟨(invD t.c).2, zeroM⟩
theorem invD_short {r : RatD} (h : r.short) : (invD r).2.short := by
 unfold invD
 split
 ·exact zeroD_short
 ·split
  ·exact zeroD_short
  ·exact ⟨h.2, h.1⟩
theorem poly_MonicF (b0 : Nat) (order : Int) (A : Option Addr) (c : Nat) (ps : List TermD) (w : World) (hb0 : b0 ≤ w.heap.size) (h : RPol w b0 A ps) (hc : ps.length ≤ c) (hs : shortP ps) :
    Calls Tryz.prog 106 #[.int .i64 order, .slice A ps.length c] w fun e w' => ∃ A' c', e = .returned (.tuple #[.slice A' (polMonic order ps).2.length c', .int .i64 (polMonic order ps).1]) ∧
     (polMonic order ps).2.length ≤ c' ∧ RPol w' b0 A' (polMonic order ps).2 ∧ Below w.heap.size w w' ∧ Fr w.heap.size A' := by
 have HP := Hd.mk h
 have HS := Hd.mk hs
 have HB0 := Hd.mk hb0
 have hl := hs.1
 clear h hs hb0
 have CM := Hd.mk (poly_May b0 order A c ps w HP.out hc HS.out)
 cases hm : polMay order ps
 ·rw [hm] at CM
  have HE : Hd (polMonic order ps = (1, [])) := ⟨by unfold polMonic; rw [hm]; rfl⟩
  clear hm
  go_enter Tryz.func106, Tryz.ntmps106
  go_wp2_with fail
  refine CM.out.mono ?_
  rintro e w2 ⟨rfl, hb2⟩
  have HB2 := Hd.mk hb2
  clear hb2
  go_wp2_with fail
  go_ret2
  rw [HE.out]
  exact ⟨none, 0, rfl, Nat.le_refl _, RPol.nil _ _ _, HB2.out, Fr.none _⟩
 ·rw [hm] at CM
  cases ps with
  | nil =>
    have HE : Hd (polMonic order [] = (0, [])) := ⟨by unfold polMonic; rw [hm]; rfl⟩
    clear hm
    go_enter Tryz.func106, Tryz.ntmps106
    go_wp2_with fail
    refine CM.out.mono ?_
    rintro e w2 ⟨rfl, hb2⟩
    have HB2 := Hd.mk hb2
    clear hb2
    go_wp2_with fail
    go_ret2
    rw [HE.out]
    exact ⟨none, 0, rfl, Nat.le_refl _, RPol.nil _ _ _, HB2.out, Fr.none _⟩
  | cons t r =>
    obtain ⟨I, hI⟩ : ∃ I, invD t.c = I := ⟨_, rfl⟩
    have HE : Hd (polMonic order (t :: r) = if I.1 ≠ 0 then (I.1, []) else polTimes order (t :: r) ⟨I.2, zeroM⟩) := ⟨by unfold polMonic; rw [hm]; simp only [hI]; rfl⟩
    have hts := HS.out.2 t (by simp)
    have HI := Hd.mk (show I.2.short by rw [← hI]; exact invD_short hts)
    have CI := Hd.mk (fun v W hW hv => ratio_Inv b0 v t.c W hW hv hts)
    rw [hI] at CI
    clear hm hI hts
    obtain ⟨N, hN⟩ : ∃ N, N = t :: r := ⟨_, rfl⟩
    have H0 : Hd (N[0]? = some t) := ⟨by rw [hN]; rfl⟩
    have hN0 : 0 < N.length := by rw [hN]; simp
    rw [← hN] at HP HS CM HE hc hl ⊢
    clear hN
    have z1 : ((N.length : Int) == 0) = false := by rw [beq_eq_false_iff_ne]; omega
    have z2 : (0 : Int) < N.length := by omega
    go_enter Tryz.func106, Tryz.ntmps106
    go_wp2_with fail
    refine CM.out.mono ?_
    rintro e w2 ⟨rfl, hb2⟩
    have HB2 := Hd.mk hb2
    obtain ⟨ad, B1, c1, B2, c2, t', rfl, hab, hti, hrt, q0, q1, q2, q3, q4, q5, q6⟩ := (HP.out.up hb2).get hN0
    have ht' : t' = t := by have := hti.out; rw [H0.out] at this; injection this with this; exact this.symm
    subst ht'
    have HRR : Hd (RRat w2 b0 (.agg #[.bool t'.c.neg, .slice B1 t'.c.num.length c1, .slice B2 t'.c.den.length c2]) t'.c) := ⟨by
     obtain ⟨x1, x2, x3, x4, e, y1, y2, y3, y4⟩ := hrt.out
     simp only [Value.agg.injEq, Array.mk.injEq, List.cons.injEq, Value.slice.injEq, true_and, and_true] at e
     obtain ⟨⟨rfl, rfl⟩, rfl, rfl⟩ := e
     exact ⟨_, _, _, _, rfl, y1, y2, y3, y4⟩⟩
    have CI2 := Hd.mk (CI.out _ w2 (Nat.le_trans HB0.out hb2.size) HRR.out)
    have ea : ad.add (0 * 7) = ad := by unfold Addr.add; simp
    rw [ea] at q0 q1 q2
    clear ea hb2 CM CI hrt HRR H0 hti q3 q4 q5 q6
    go_wp2_with fail
    refine CI2.out.mono ?_
    rintro e w3 ⟨x, rfl, hx, hb3⟩
    have HB3 := Hd.mk (HB2.out.trans (hb3.mono HB2.out.size))
    have HX := Hd.mk hx
    obtain ⟨xA, xc, xB, xd, rfl, hxc, hxd, _, _⟩ := hx
    clear hb3 CI2 q0 q1 q2 hab
    by_cases h0 : I.1 = 0
    ·have e1 : (I.1 != 0) = false := by rw [bne_eq_false_iff_eq]; exact h0
     have HF : Hd (polMonic order N = polTimes order N ⟨I.2, zeroM⟩) := ⟨by rw [HE.out, if_neg (by rw [h0]; simp)]⟩
     have hal : Below w3.heap.size w3 (w3.alloc (Obj.cells #[.bool I.2.neg, .slice xA I.2.num.length xc, .slice xB I.2.den.length xd] 64)) := (Below.refl _ _).alloc (Nat.le_refl _) _
     have HB4 := Hd.mk (HB3.out.trans (hal.mono HB3.out.size))
     have HX4 := Hd.mk (HX.out.up hal)
     have CT := Hd.mk (poly_TimesF b0 order (some ad) c N (.agg #[.bool I.2.neg, .slice xA I.2.num.length xc, .slice xB I.2.den.length xd, .int .i64 0, .int .i64 0, .int .i64 0, .int .i64 0]) ⟨I.2, zeroM⟩ _ (Nat.le_trans HB0.out HB4.out.size) (HP.out.up HB4.out) hc HS.out (by
      obtain ⟨x1, x2, x3, x4, e, y1, y2, y3, y4⟩ := HX4.out
      simp only [Value.agg.injEq, Array.mk.injEq, List.cons.injEq, Value.slice.injEq, true_and, and_true] at e
      obtain ⟨⟨rfl, rfl⟩, rfl, rfl⟩ := e
      exact ⟨_, _, _, _, rfl, y1, y2, y3, y4⟩) HI.out)
     clear h0 hal
     go_wp2_with fail
     refine CT.out.mono ?_
     rintro e w5 ⟨A', c', rfl, hc', hr', hb5, hfr⟩
     have HFR := Hd.mk (hfr.le HB4.out.size)
     have HC' := Hd.mk hc'
     have HR' := Hd.mk hr'
     have HB5 := Hd.mk (HB4.out.trans (hb5.mono HB4.out.size))
     clear hb5 hc' hr' hfr
     go_wp2_with fail
     go_ret2
     rw [HF.out]
     exact ⟨A', c', rfl, HC'.out, HR'.out, HB5.out, HFR.out⟩
    ·have e1 : (I.1 != 0) = true := by rw [bne_iff_ne]; exact h0
     have HF : Hd (polMonic order N = (I.1, [])) := ⟨by rw [HE.out, if_pos h0]⟩
     clear h0
     go_wp2_with fail
     go_ret2
     rw [HF.out]
     exact ⟨none, 0, rfl, Nat.le_refl _, RPol.nil _ _ _, HB3.out.trans (((Below.refl w3.heap.size w3).alloc (Nat.le_refl _) _).mono HB3.out.size), Fr.none _⟩
theorem polMay_at {o : Int} {p : List TermD} (h : polMay o p = true) {i : Nat} {t : TermD} (hi : p[i]? = some t) : right t = true ∧ t.c.num.length ≠ 0 := by
 unfold polMay at h
 rw [Bool.and_eq_true, List.all_eq_true] at h
 have hlt : i < p.length := by
  rcases Nat.lt_or_ge i p.length with h1 | h1
  ·exact h1
  ·rw [List.getElem?_eq_none h1] at hi; cases hi
 have h2 := h.1 i (List.mem_range.2 hlt)
 rw [okAt_of hi] at h2
 simp only [Bool.and_eq_true, Bool.not_eq_true', decide_eq_false_iff_not] at h2
 exact ⟨by unfold right; rw [h2.1.1.1, h2.1.1.2]; rfl, h2.1.2⟩
theorem polMay_inv {o : Int} {t : TermD} {r : List TermD} (h : polMay o (t :: r) = true) : (invD t.c).1 = 0 := by
 obtain ⟨h1, h2⟩ := polMay_at h (i := 0) rfl
 unfold right at h1
 rw [Bool.and_eq_true] at h1
 unfold invD
 rw [h1.1, if_neg (by simp), if_neg h2]
structure Bo1 (S g : Nat) (w0 w : World) (ty : TypeId) (cs : Array Value) : Prop where
 below : Below S w0 w
 s1 : S ≤ g
 k1 : Bk w g ty cs
section
variable {S g : Nat} {w0 w w' : World} {ty : TypeId} {cs : Array Value}
theorem Bo1.up (h : Bo1 S g w0 w ty cs) (hb : Below w.heap.size w w') : Bo1 S g w0 w' ty cs :=
 ⟨h.below.trans (hb.mono (Nat.le_trans h.s1 (Nat.le_of_lt h.k1.lt))), h.s1, h.k1.up hb⟩
theorem Bo1.al (h : Bo1 S g w0 w ty cs) (o : Obj) : Bo1 S g w0 (w.alloc o) ty cs := h.up ((Below.refl _ _).alloc (Nat.le_refl _) _)
theorem Bo1.d1 (h : Bo1 S g w0 w ty cs) : Bo1 S g w0 w.drew ty cs := ⟨Below.dn h.below 1, h.s1, h.k1⟩
theorem Bo1.mk1 (w : World) (ty : TypeId) (cs : Array Value) : Bo1 w.heap.size w.heap.size w (w.alloc (Obj.cells cs ty)) ty cs := ⟨(Below.refl _ _).alloc (Nat.le_refl _) _, Nat.le_refl _, Bk.new_ _ _ _⟩
end
theorem rpols_bk3 {W : World} {b0 g : Nat} {t : TypeId} {p q r : List TermD} {A B C : Option Addr} {c d e : Nat} (hk : Bk W g t #[.slice A p.length c, .slice B q.length d, .slice C r.length e]) (h : RPol W b0 A p) (h' : RPol W b0 B q) (h'' : RPol W b0 C r) (hc : p.length ≤ c) (hd : q.length ≤ d) (he : r.length ≤ e) : RPols W b0 (some ⟨g, 0, none⟩) [p, q, r] := by
 refine ⟨_, Rd.of_bk hk 3 1 rfl, fun j x hj => ?_⟩
 match j, hj with
 | 0, hj => injection hj with hj; subst hj; exact ⟨_, _, rfl, hc, h⟩
 | 1, hj => injection hj with hj; subst hj; exact ⟨_, _, rfl, hd, h'⟩
 | 2, hj => injection hj with hj; subst hj; exact ⟨_, _, rfl, he, h''⟩
theorem shortP_nil : shortP [] := ⟨by simp, fun s hs => by cases hs⟩
theorem polAdd_short {o : Int} {ps : List (List TermD)} (h : ∀ p ∈ ps, shortP p) : shortP (polAdd o ps).2 := by
 unfold polAdd
 split
 ·exact shortP_nil
 ·exact (polMake_short fun s hs => by
    obtain ⟨p, hp, hs⟩ := List.mem_flatten.1 hs
    exact (h p hp).2 s hs).1
theorem polTimes_short {o : Int} {p : List TermD} (t : TermD) (h : shortP p) : shortP (polTimes o p t).2 :=
 ⟨Nat.le_trans (polTimes_facts o p t).1 h.1, (polTimes_facts o p t).2⟩
def AllP (b0 : Nat) (w : World) (l : List (Option Addr × List TermD)) : Prop := ∀ (j : Nat) (p : Option Addr × List TermD), l[j]? = some p → RPol w b0 p.1 p.2
section
variable {b0 : Nat} {w w' : World} {l : List (Option Addr × List TermD)}
theorem AllP.up (h : AllP b0 w l) (hb : Below w.heap.size w w') : AllP b0 w' l := fun j p hp => (h j p hp).up hb
theorem AllP.cons {A : Option Addr} {ts : List TermD} (h : AllP b0 w l) (hr : RPol w b0 A ts) : AllP b0 w ((A, ts) :: l) := fun j p hp => by
 match j, hp with
 | 0, hp => injection hp with hp; subst hp; exact hr
 | j + 1, hp => exact h j p hp
theorem AllP.nil : AllP b0 w [] := fun j p hp => by simp at hp
end
end Go.Proofs.YtgjkgkgieeoalaaGreat
