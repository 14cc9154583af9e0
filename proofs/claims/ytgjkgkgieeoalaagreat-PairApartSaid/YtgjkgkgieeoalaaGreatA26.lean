/- Parts of the proof, joined: each theorem says what it shows. -/
import Derived.Test.YtgjkgkgieeoalaaGreatA25
import Derived.Test.YtgjkgkgieeoalaaGreatA21
import Derived.Test.YtgjkgkgieeoalaaGreatA23
set_option linter.unusedVariables false
set_option linter.unusedSimpArgs false
set_option maxHeartbeats 24000000
set_option maxRecDepth 100000
namespace Go.Proofs.YtgjkgkgieeoalaaGreat
open Go.RowKit
theorem putD_short {o : Int} {al : List TermD} {t : TermD} (h : ∀ s ∈ al, s.c.short) (ht : t.c.short) : (∀ s ∈ (putD o al t).2, s.c.short) ∧ (putD o al t).2.length ≤ al.length + 1 := by
 unfold putD
 split
 ·split
  ·exact ⟨fun s (hs : s ∈ []) => (by cases hs), Nat.zero_le _⟩
  ·refine ⟨fun s hs => ?_, by unfold setM; simp⟩
   unfold setM at hs
   rw [List.mem_map] at hs
   obtain ⟨p, hp, e⟩ := hs
   split at e
   ·subst e; exact addD_short _ _
   ·subst e; exact h p hp
 ·refine ⟨fun s hs => ?_, by rw [insD_len]; exact Nat.le_refl _⟩
  rcases mem_insD.1 hs with rfl | hs
  ·exact ht
  ·exact h s hs
theorem polMake_odd {o : Int} {ts : List TermD} {i : Nat} {t : TermD} (h : ts[i]? = some t) (hr : right t = false) : polMake o ts = (1, []) := by
 unfold polMake
 rw [if_pos]
 have : anyOdd ts = true := by
  unfold anyOdd
  rw [List.any_eq_true]
  exact ⟨t, List.mem_of_getElem? h, by rw [hr]; rfl⟩
 rw [this]; simp
theorem rpol_MakeF (b0 : Nat) (order : Int) (A : Option Addr) (c : Nat) (ts : List TermD) (w : World) (hb0 : b0 ≤ w.heap.size) (h : RPol w b0 A ts) (hc : ts.length ≤ c) (h9 : ts.length ≤ 50000) (hs : shortP ts) :
    Calls Tryz.prog 87 #[.int .i64 order, .slice A ts.length c] w fun e w' => ∃ A' c', e = .returned (.tuple #[.slice A' (polMake order ts).2.length c', .int .i64 (polMake order ts).1]) ∧
     (polMake order ts).2.length ≤ c' ∧ RPol w' b0 A' (polMake order ts).2 ∧ Below w.heap.size w w' ∧ Fr w.heap.size A' := by
 have HP := Hd.mk h
 have HS := Hd.mk hs
 have HB0 := Hd.mk hb0
 have CO := Hd.mk (rpol_ordered order w)
 clear h hs hb0
 obtain ⟨E, hE⟩ : ∃ E, polMake order ts = E := ⟨_, rfl⟩
 rw [hE]
 have HE := Hd.mk hE
 clear hE
 obtain ⟨ob, hob⟩ : ∃ ob, ordered order = ob := ⟨_, rfl⟩
 rw [hob] at CO
 have HO := Hd.mk hob
 clear hob
 cases ob
 ·have HF : Hd (E = (1, [])) := ⟨by rw [← HE.out]; unfold polMake; rw [HO.out]; rfl⟩
  go_enter Tryz.func87, Tryz.ntmps87
  go_wp2_with fail
  refine CO.out.mono ?_
  rintro e w2 ⟨rfl, rfl⟩
  go_wp2_with fail
  go_ret2
  rw [HF.out]
  exact ⟨none, 0, rfl, Nat.le_refl _, RPol.nil _ _ _, .refl _ _, Fr.none _⟩
 go_enter Tryz.func87, Tryz.ntmps87
 go_wp2_with fail
 refine CO.out.mono ?_
 rintro e w2 ⟨rfl, rfl⟩
 clear CO
 go_wp2_with fail
 go_loopw [6] (fun v wr => ∃ i : Nat, v = .int .i64 i ∧ i ≤ ts.length ∧ Hd (Below w.heap.size w wr) ∧ Hd (∀ s ∈ ts.take i, right s = true)) (fun v _ => ts.length - (intOf v).toNat)
 case atStart => exact ⟨0, rfl, by omega, ⟨.refl _ _⟩, ⟨by simp⟩⟩
 case round =>
  obtain ⟨i, rfl, hi, hb, ha⟩ := hrel
  by_cases hlt : i < ts.length
  ·have i1 : (i : Int) < ts.length := by omega
   have i3 : (0 : Int) ≤ i := by omega
   obtain ⟨ad, B1, c1, B2, c2, t, rfl, hab, ht, hrt, q0, q1, q2, q3, q4, q5, q6⟩ := (HP.out.up hb.out).get hlt
   obtain ⟨k0, k1, k2, k3, k4, k5, k6⟩ := Wd.at7 q0 q1 q2 q3 q4 q5 q6
   have hst := HS.out.2 t (List.mem_of_getElem? ht.out)
   have C1 := Hd.mk (rrat_May b0 _ t.c wr hrt.out.rat hst)
   have C2 := Hd.mk (rmon_May t.m)
   have HR : Hd (right t = (ratMay t.c && monMay t.m)) := ⟨rfl⟩
   have HG : Hd (right t = true → ∀ s ∈ ts.take (i + 1), right s = true) := ⟨fun hr s hs => by
    have e1 : ts[i] = t := by have := ht.out; rw [List.getElem?_eq_getElem hlt] at this; injection this
    rw [List.take_succ_eq_append_getElem hlt, e1, List.mem_append, List.mem_singleton] at hs
    rcases hs with hs | rfl
    ·exact ha.out s hs
    ·exact hr⟩
   have HN := Hd.mk (fun hr => HE.out.symm.trans (polMake_odd (o := order) ht.out hr))
   clear hst ht q3 q4 q5 q6
   cases hm1 : ratMay t.c
   ·rw [hm1] at C1
    have HF := Hd.mk (HN.out (by rw [HR.out, hm1]; rfl))
    clear hm1
    go_wp2_with fail
    refine C1.out.mono ?_
    rintro e w3 ⟨rfl, hb3⟩
    have HB3 := Hd.mk (goes hb.out hb3)
    clear hb3
    go_wp2_with fail
    go_ret2
    rw [HF.out]
    exact ⟨none, 0, rfl, Nat.le_refl _, RPol.nil _ _ _, HB3.out, Fr.none _⟩
   rw [hm1] at C1 HR
   clear hm1
   go_wp2_with fail
   refine C1.out.mono ?_
   rintro e w3 ⟨rfl, hb3⟩
   have HB3 := Hd.mk (goes hb.out hb3)
   have k3 := k3 ⟨w3, hb3⟩
   have k4 := k4 ⟨w3, hb3⟩
   have k5 := k5 ⟨w3, hb3⟩
   have k6 := k6 ⟨w3, hb3⟩
   simp only [Wd.w] at k3 k4 k5 k6
   clear hb3 k0 k1 k2 C1 q0 q1 q2
   cases hm2 : monMay t.m
   ·rw [hm2] at C2
    have HF := Hd.mk (HN.out (by rw [HR.out, hm2]; rfl))
    clear hm2
    go_wp2_with fail
    refine (C2.out _).mono ?_
    rintro e w4 ⟨rfl, hb4⟩
    have HB4 := Hd.mk (goes HB3.out hb4)
    clear hb4
    go_wp2_with fail
    go_ret2
    rw [HF.out]
    exact ⟨none, 0, rfl, Nat.le_refl _, RPol.nil _ _ _, HB4.out, Fr.none _⟩
   ·rw [hm2] at C2
    have HF := Hd.mk (HG.out (by rw [HR.out, hm2]; rfl))
    clear hm2
    go_wp2_with fail
    refine (C2.out _).mono ?_
    rintro e w4 ⟨rfl, hb4⟩
    have HB4 := Hd.mk (goes HB3.out hb4)
    clear hb4
    go_wp2_with fail
    go_roundw
    case measure => first | (simp [intOf]; done) | (simp [intOf]; omega)
    case rel => exact ⟨i + 1, by go_num, by omega, HB4, HF⟩
  ·obtain rfl : i = ts.length := by omega
   have HR : Hd (∀ s ∈ ts, right s = true) := ⟨by have := ha.out; rwa [List.take_length] at this⟩
   have HE2 : Hd (E = if (putAll order [] ts).1 ≠ 0 then ((putAll order [] ts).1, []) else if 60 < ((putAll order [] ts).2.filter nz).length then (90, []) else (0, (putAll order [] ts).2.filter nz)) := ⟨by
    rw [← HE.out]
    unfold polMake
    have : anyOdd ts = false := by
     unfold anyOdd
     rw [List.any_eq_false]
     intro s hs
     rw [HR.out s hs]; simp
    rw [HO.out, this, if_neg (by simp)]⟩
   have HOK := Hd.mk (ordered_ok.1 HO.out)
   clear ha HE
   go_upto_region 9 with (fail)
   refine wp_gen (fun W => Below w.heap.size w W ∧ RPol W b0 (some ⟨wr.heap.size, 0, none⟩) []) ⟨hb.out.alloc hb.out.size _, RPol.nil _ _ _⟩ ?_
   intro W0 hW
   have HB := Hd.mk hW.out.1
   have H0 := Hd.mk hW.out.2
   clear hW hb
   generalize wr.heap.size = g0 at H0 ⊢
   go_wp2_with fail
   go_loopw [7, 8] (fun v7 v8 wr => ∃ (i : Nat) (al : List TermD) (A' : Option Addr) (c' : Nat), v8 = .int .i64 i ∧ v7 = .slice A' al.length c' ∧ i ≤ ts.length ∧ al.length ≤ i ∧ al.length ≤ c' ∧ Hd (RPol wr b0 A' al) ∧ Hd (Sta order al ∧ ∀ s ∈ al, s.c.short) ∧ Hd (putAll order al (ts.drop i) = putAll order [] ts) ∧ Hd (Below w.heap.size w wr)) (fun _ v _ => ts.length - (intOf v).toNat)
   case atStart => exact ⟨0, [], _, _, rfl, rfl, by omega, by simp, Nat.le_refl _, H0, ⟨.nil HOK.out, fun s h => by cases h⟩, ⟨rfl⟩, HB⟩
   case round =>
    clear H0 HB
    obtain ⟨i, al, A', c', rfl, rfl, hi, hal, hac, HA, HST, HQ, HB⟩ := hrel
    by_cases hlt : i < ts.length
    ·have i1 : (i : Int) < ts.length := by omega
     have i3 : (0 : Int) ≤ i := by omega
     obtain ⟨ad, B1, c1, B2, c2, t, rfl, hab, ht, hrt, q0, q1, q2, q3, q4, q5, q6⟩ := (HP.out.up HB.out).get hlt
     have hst := HS.out.2 t (List.mem_of_getElem? ht.out)
     have hmt : monMay t.m = true := by
      have := HR.out t (List.mem_of_getElem? ht.out)
      unfold right at this
      rw [Bool.and_eq_true] at this
      exact this.2
     have CP := Hd.mk (rpol_put b0 order A' c' al _ t wr (Nat.le_trans HB0.out HB.out.size) HA.out hac (by omega) ⟨by omega, HST.out.2⟩ hrt.out hst hmt HST.out.1)
     have HD : Hd (putAll order [] ts = if (putD order al t).1 ≠ 0 then ((putD order al t).1, []) else putAll order (putD order al t).2 (ts.drop (i + 1))) := ⟨by
      have e1 : ts[i] = t := by have := ht.out; rw [List.getElem?_eq_getElem hlt] at this; injection this
      rw [← HQ.out, List.drop_eq_getElem_cons hlt, e1]; rfl⟩
     have HN : Hd ((putD order al t).1 = 0 → Sta order (putD order al t).2) := ⟨fun he => HST.out.1.putD hmt he⟩
     have HSH := Hd.mk (putD_short (o := order) (al := al) (t := t) HST.out.2 hst)
     obtain ⟨X1, X2, hX⟩ : ∃ X1 X2, putD order al t = (X1, X2) := ⟨_, _, rfl⟩
     rw [hX] at CP HD HN HSH
     clear hst hmt ht hX hrt
     go_wp2_with fail
     refine CP.out.mono ?_
     rintro e w3 ⟨A3, c3, rfl, hc3, hr3, hb3⟩
     have HB3 := Hd.mk (goes HB.out hb3)
     have HA3 := Hd.mk hr3
     have hl3 : X2.length ≤ i + 1 := Nat.le_trans HSH.out.2 (by omega)
     clear hb3 hr3 q0 q1 q2 q3 q4 q5 q6 CP
     by_cases he : X1 = 0
     ·have e1 : (X1 != 0) = false := by rw [bne_eq_false_iff_eq]; exact he
      have HD2 : Hd (putAll order X2 (ts.drop (i + 1)) = putAll order [] ts) := ⟨by rw [HD.out, if_neg (by simpa using he)]⟩
      have HST2 : Hd (Sta order X2 ∧ ∀ s ∈ X2, s.c.short) := ⟨HN.out he, HSH.out.1⟩
      clear he
      go_wp2_with fail
      go_roundw
      case measure => first | (simp [intOf]; done) | (simp [intOf]; omega)
      case rel => exact ⟨i + 1, X2, A3, c3, by go_num, rfl, by omega, hl3, hc3, HA3, HST2, HD2, HB3⟩
     ·have e1 : (X1 != 0) = true := by rw [bne_iff_ne]; exact he
      have HF : Hd (E = (X1, [])) := ⟨by
       have hp : putAll order [] ts = (X1, []) := HD.out.trans (if_pos he)
       rw [HE2.out, hp]; exact if_pos he⟩
      clear he
      go_wp2_with fail
      go_ret2
      rw [HF.out]
      exact ⟨none, 0, rfl, Nat.le_refl _, RPol.nil _ _ _, HB3.out, Fr.none _⟩
    ·obtain rfl : i = ts.length := by omega
     have HQ2 : Hd (putAll order [] ts = (0, al)) := ⟨by rw [← HQ.out, List.drop_eq_nil_of_le (Nat.le_refl _)]; rfl⟩
     have HE3 : Hd (E = if 60 < (al.filter nz).length then (90, []) else (0, al.filter nz)) := ⟨by rw [HE2.out, HQ2.out, if_neg (by simp)]⟩
     have HAS := Hd.mk HST.out.2
     obtain ⟨wA, hwA⟩ : ∃ x, x = wr := ⟨wr, rfl⟩
     subst hwA
     have HB0A := Hd.mk (Nat.le_trans HB0.out HB.out.size)
     clear HQ HQ2 HE2 HST
     go_upto_region 17 with (fail)
     refine wp_gen (fun W => Below wA.heap.size wA W ∧ OwnT W b0 wA.heap.size (.slice (some ⟨wA.heap.size, 0, none⟩) 0 0) []) ⟨(Below.refl _ _).alloc (Nat.le_refl _) _, ownT_lit wA b0 wA.heap.size (Nat.le_refl _)⟩ ?_
     intro W1 hW
     have HO1 := Hd.mk hW.out.2
     have HB1 := Hd.mk hW.out.1
     clear hW
     go_wp2_with fail
     go_loopw [11, 12] (fun v11 v12 wr => ∃ (i : Nat) (acc : List TermD), v12 = .int .i64 i ∧ i ≤ al.length ∧ acc.length ≤ i ∧ Hd (OwnT wr b0 wA.heap.size v11 acc) ∧ Hd (acc = (al.take i).filter nz) ∧ Hd (Below wA.heap.size wA wr)) (fun _ v _ => al.length - (intOf v).toNat)
     case atStart => exact ⟨0, [], rfl, by omega, by simp, HO1, ⟨rfl⟩, HB1⟩
     case round =>
      clear HO1 HB1
      obtain ⟨i, acc, rfl, hi, hacc, HO, HQ, HB2⟩ := hrel
      obtain ⟨Av, cv, rfl, hcv, _, hrv⟩ := HO.out.reads
      have HRV := Hd.mk hrv
      clear hrv
      by_cases hlt : i < al.length
      ·have i1 : (i : Int) < al.length := by omega
       have i3 : (0 : Int) ≤ i := by omega
       obtain ⟨ad, B1, c1, B2, c2, t, rfl, hab, ht, hrt, q0, q1, q2, q3, q4, q5, q6⟩ := (HA.out.up HB2.out).get hlt
       have CZ := Hd.mk (rrat_Zero b0 _ t.c wr hrt.out.rat)
       have HT : Hd ((al.take (i + 1)).filter nz = acc ++ [t].filter nz) := ⟨by
        have e1 : al[i] = t := by have := ht.out; rw [List.getElem?_eq_getElem hlt] at this; injection this
        rw [List.take_succ_eq_append_getElem hlt, e1, List.filter_append, HQ.out]⟩
       obtain ⟨zb, hzb⟩ : ∃ zb, decide (t.c.num.length = 0) = zb := ⟨_, rfl⟩
       have HZ : Hd (nz t = !zb) := ⟨by unfold nz; rw [hzb]⟩
       rw [hzb] at CZ
       clear hzb HQ ht
       cases zb
       ·have HT2 : Hd (acc ++ [t] = (al.take (i + 1)).filter nz) := ⟨by rw [HT.out, List.filter_cons, HZ.out]; rfl⟩
        have xl : acc.length + [t].length ≤ 1000000 := by simp; omega
        have XL := Hd.mk xl
        clear HT HZ xl
        go_wp2_with fail
        refine CZ.out.mono ?_
        rintro e w4 ⟨rfl, hb4⟩
        have HB4 := Hd.mk (goes HB2.out hb4)
        have HO4 := Hd.mk (HO.out.up hb4)
        have HT4 := Hd.mk (hrt.out.up hb4)
        have r0 := cell_up q0 hb4
        have r1 := cell_up q1 hb4
        have r2 := cell_up q2 hb4
        have r3 := cell_up q3 hb4
        have r4 := cell_up q4 hb4
        have r5 := cell_up q5 hb4
        have r6 := cell_up q6 hb4
        clear hb4 q0 q1 q2 q3 q4 q5 q6 CZ hrt
        go_wp2_with (at_builtin; refine wpList_append_T (w0 := wA) (us := [t]) rfl _ _ 25 25 rfl Tryz.slPoly Tryz.slPoly rfl rfl rfl (HO4.out.up ((Below.refl _ _).alloc (Nat.le_refl _) _)) (rpol_one HT4.out _) HB0A.out XL.out (goes HB4.out ((Below.refl _ _).alloc (Nat.le_refl _) _)) (Nat.le_refl _) (goes HB4.out ((Below.refl _ _).alloc (Nat.le_refl _) _)).size ?_)
        intro v' w8 AP
        have HAP := Hd.mk AP
        clear AP
        have hl8 : (acc ++ [t]).length ≤ i + 1 := by simp; omega
        go_wp2_with fail
        go_roundw
        case measure => first | (simp [intOf]; done) | (simp [intOf]; omega)
        case rel => exact ⟨i + 1, acc ++ [t], by go_num, by omega, hl8, ⟨HAP.out.own⟩, HT2, ⟨HAP.out.below⟩⟩
       ·have HT2 : Hd (acc = (al.take (i + 1)).filter nz) := ⟨by rw [HT.out, List.filter_cons, HZ.out]; simp⟩
        clear HT HZ
        go_wp2_with fail
        refine CZ.out.mono ?_
        rintro e w4 ⟨rfl, hb4⟩
        have HB4 := Hd.mk (goes HB2.out hb4)
        have HO4 := Hd.mk (HO.out.up hb4)
        clear hb4 CZ hrt
        go_wp2_with fail
        go_roundw
        case measure => first | (simp [intOf]; done) | (simp [intOf]; omega)
        case rel => exact ⟨i + 1, acc, by go_num, by omega, by omega, HO4, HT2, HB4⟩
      ·obtain rfl : i = al.length := by omega
       have HQ2 : Hd (E = if 60 < acc.length then (90, []) else (0, acc)) := ⟨by rw [HE3.out, HQ.out, List.take_length]⟩
       clear HQ
       by_cases h60 : 60 < acc.length
       ·have HF : Hd (E = (90, [])) := ⟨by rw [HQ2.out, if_pos h60]⟩
        clear HQ2
        go_wp2_with fail
        go_ret2
        rw [HF.out]
        exact ⟨none, 0, rfl, Nat.le_refl _, RPol.nil _ _ _, goes HB.out HB2.out, Fr.none _⟩
       ·have HF : Hd (E = (0, acc)) := ⟨by rw [HQ2.out, if_neg h60]⟩
        clear HQ2
        go_wp2_with fail
        go_ret2
        rw [HF.out]
        exact ⟨Av, cv, rfl, hcv, HRV.out, goes HB.out HB2.out, HO.out.fr HB.out.size⟩
theorem rpol_Make (b0 : Nat) (order : Int) (A : Option Addr) (c : Nat) (ts : List TermD) (w : World) (hb0 : b0 ≤ w.heap.size) (h : RPol w b0 A ts) (hc : ts.length ≤ c) (h9 : ts.length ≤ 50000) (hs : shortP ts) :
    Calls Tryz.prog 87 #[.int .i64 order, .slice A ts.length c] w fun e w' => ∃ A' c', e = .returned (.tuple #[.slice A' (polMake order ts).2.length c', .int .i64 (polMake order ts).1]) ∧
     (polMake order ts).2.length ≤ c' ∧ RPol w' b0 A' (polMake order ts).2 ∧ Below w.heap.size w w' :=
 (rpol_MakeF b0 order A c ts w hb0 h hc h9 hs).mono fun _ _ ⟨A', c', h1, h2, h3, h4, _⟩ => ⟨A', c', h1, h2, h3, h4⟩
theorem putAll_short {o : Int} : ∀ {ts al : List TermD}, (∀ s ∈ al, s.c.short) → (∀ s ∈ ts, s.c.short) → ∀ s ∈ (putAll o al ts).2, s.c.short
 | [], al, h, _ => h
 | t :: ts, al, h, ht => by
   unfold putAll
   split
   ·intro s hs; cases hs
   ·exact putAll_short (putD_short h (ht t (by simp))).1 (fun s hs => ht s (by simp [hs]))
theorem polMake_short {o : Int} {ts : List TermD} (h : ∀ s ∈ ts, s.c.short) : shortP (polMake o ts).2 ∧ (polMake o ts).2.length ≤ 60 := by
 unfold polMake
 split
 ·exact ⟨⟨by simp, fun s hs => by cases hs⟩, by simp⟩
 ·split
  ·exact ⟨⟨by simp, fun s hs => by cases hs⟩, by simp⟩
  ·split
   ·exact ⟨⟨by simp, fun s hs => by cases hs⟩, by simp⟩
   ·rename_i h60
    have hl : ((putAll o [] ts).2.filter nz).length ≤ 60 := Nat.le_of_not_lt h60
    exact ⟨⟨Nat.le_trans hl (by decide), fun s hs => putAll_short (fun _ h => by cases h) h s (List.mem_filter.1 hs).1⟩, hl⟩
theorem timesL_cons {t s : TermD} {r : List TermD} : timesL t (s :: r) = if (mulD s.c t.c).1 ≠ 0 then ((mulD s.c t.c).1, []) else if (monMul s.m t.m).1 ≠ 0 then ((monMul s.m t.m).1, [])
    else if (timesL t r).1 ≠ 0 then ((timesL t r).1, []) else (0, ⟨(mulD s.c t.c).2, (monMul s.m t.m).2⟩ :: (timesL t r).2) := rfl
theorem below_set4 {w0 w : World} {g : Nat} (h : Below w0.heap.size w0 w) (hg : w0.heap.size ≤ g) (x y z u : Value) : Below w0.heap.size w0 ((((w.setCell ⟨g, 0, none⟩ x).setCell ⟨g, 1, none⟩ y).setCell ⟨g, 2, none⟩ z).setCell ⟨g, 3, none⟩ u) :=
 (((h.setCell hg _).setCell hg _).setCell hg _).setCell hg _
theorem rpol_Times (b0 : Nat) (order : Int) (A : Option Addr) (c : Nat) (ps : List TermD) (v : Value) (t : TermD) (w : World) (hb0 : b0 ≤ w.heap.size) (h : RPol w b0 A ps) (hc : ps.length ≤ c) (hs : shortP ps) (ht : RTerm w b0 v t) (hts : t.c.short) :
    Calls Tryz.prog 119 #[.int .i64 order, .slice A ps.length c, v] w fun e w' => ∃ A' c', e = .returned (.tuple #[.slice A' (polTimes order ps t).2.length c', .int .i64 (polTimes order ps t).1]) ∧
     (polTimes order ps t).2.length ≤ c' ∧ RPol w' b0 A' (polTimes order ps t).2 ∧ Below w.heap.size w w' := by
 have hl := hs.1
 have HP := Hd.mk h
 have HS := Hd.mk hs
 have HB0 := Hd.mk hb0
 have HT := Hd.mk ht
 have HTS := Hd.mk hts
 obtain ⟨E, hE⟩ : ∃ E, polTimes order ps t = E := ⟨_, rfl⟩
 rw [hE]
 have HE := Hd.mk hE
 clear h hs hb0 hts hE
 obtain ⟨TA, tc, TB, td, rfl, _, _, _, _⟩ := ht
 go_enter Tryz.func119, Tryz.ntmps119
 go_upto_region 1 with (fail)
 refine wp_gen (fun W => Below w.heap.size w W ∧ Bk W w.heap.size 68 (t.v TA tc TB td)) ⟨(Below.refl _ _).alloc (Nat.le_refl _) _, Bk.new_ _ _ _⟩ ?_
 intro W0 hW
 have HB := Hd.mk hW.out.1
 have HK := Hd.mk hW.out.2
 have HB01 : Hd (b0 ≤ w.heap.size + 1) := ⟨by have := HB0.out; omega⟩
 have HLT : Hd (w.heap.size < w.heap.size + 1) := ⟨Nat.lt_succ_self _⟩
 have HZ : Hd (w.heap.size + 1 ≤ W0.heap.size) := ⟨HK.out.lt⟩
 clear hW
 obtain ⟨gb, hgb⟩ : ∃ gb, w.heap.size = gb := ⟨_, rfl⟩
 obtain ⟨base, hbase⟩ : ∃ base, w.heap.size + 1 = base := ⟨_, rfl⟩
 rw [hbase] at HZ HB01 HLT
 have HBB : Hd (w.heap.size ≤ base) := ⟨Nat.le_of_lt HLT.out⟩
 rw [hgb] at HK HLT ⊢
 clear hbase hgb
 have CM := Hd.mk (rpol_May b0 order A c ps W0 (HP.out.up HB.out) hc HS.out)
 cases hm : polMay order ps
 ·rw [hm] at CM
  have HF : Hd (E = (1, [])) := ⟨by rw [← HE.out]; unfold polTimes; rw [hm]; rfl⟩
  clear hm
  go_wp2_with fail
  refine CM.out.mono ?_
  rintro e w2 ⟨rfl, hb2⟩
  have HB2 := Hd.mk (goes HB.out hb2)
  clear hb2
  go_wp2_with fail
  go_ret2
  rw [HF.out]
  exact ⟨none, 0, rfl, Nat.le_refl _, RPol.nil _ _ _, HB2.out⟩
 rw [hm] at CM
 have hl60 := polMay_len hm
 cases hr1 : ratMay t.c
 ·have HF : Hd (E = (1, [])) := ⟨by rw [← HE.out]; unfold polTimes right; rw [hr1, hm]; rfl⟩
  clear hm
  go_wp2_with fail
  refine CM.out.mono ?_
  rintro e w2 ⟨rfl, hb2⟩
  have HB2 := Hd.mk (goes HB.out hb2)
  obtain ⟨⟨t0, t1, t2⟩, t3, t4, t5, t6⟩ := (HK.out.up hb2).seven
  have CR := Hd.mk (rrat_May b0 _ t.c w2 (HT.out.rat.up HB2.out) HTS.out)
  rw [hr1] at CR
  clear hb2 hr1
  go_wp2_with fail
  refine CR.out.mono ?_
  rintro e w3 ⟨rfl, hb3⟩
  have HB3 := Hd.mk (goes HB2.out hb3)
  clear hb3
  go_wp2_with fail
  go_ret2
  rw [HF.out]
  exact ⟨none, 0, rfl, Nat.le_refl _, RPol.nil _ _ _, HB3.out⟩
 have CRA := Hd.mk (fun W (hB : Hd (Below w.heap.size w W)) => rrat_May b0 _ t.c W (HT.out.rat.up hB.out) HTS.out)
 rw [hr1] at CRA
 cases hr2 : monMay t.m
 ·have HF : Hd (E = (1, [])) := ⟨by rw [← HE.out]; unfold polTimes right; rw [hr1, hr2, hm]; rfl⟩
  have CMM := Hd.mk (rmon_May t.m)
  rw [hr2] at CMM
  clear hm hr1 hr2
  go_wp2_with fail
  refine CM.out.mono ?_
  rintro e w2 ⟨rfl, hb2⟩
  have HB2 := Hd.mk (goes HB.out hb2)
  have HK2 := Hd.mk (HK.out.up hb2)
  obtain ⟨⟨t0, t1, t2⟩, t3, t4, t5, t6⟩ := HK2.out.seven
  clear hb2
  go_wp2_with fail
  refine (CRA.out _ HB2).mono ?_
  rintro e w3 ⟨rfl, hb3⟩
  have HB3 := Hd.mk (goes HB2.out hb3)
  obtain ⟨⟨t0, t1, t2⟩, t3, t4, t5, t6⟩ := (HK2.out.up hb3).seven
  clear hb3
  go_wp2_with fail
  refine (CMM.out _).mono ?_
  rintro e w4 ⟨rfl, hb4⟩
  have HB4 := Hd.mk (goes HB3.out hb4)
  clear hb4
  go_wp2_with fail
  go_ret2
  rw [HF.out]
  exact ⟨none, 0, rfl, Nat.le_refl _, RPol.nil _ _ _, HB4.out⟩
 have HE1 : Hd (E = if t.c.num.length = 0 then (0, []) else timesL t ps) := ⟨by rw [← HE.out]; unfold polTimes right; rw [hr1, hr2, hm]; rfl⟩
 have CMM := Hd.mk (rmon_May t.m)
 rw [hr2] at CMM
 have CZ := Hd.mk (fun W (hB : Hd (Below w.heap.size w W)) => rrat_Zero b0 _ t.c W (HT.out.rat.up hB.out))
 have HM := Hd.mk (And.intro hr1 hr2)
 clear hm hr1 hr2 HE
 go_wp2_with fail
 refine CM.out.mono ?_
 rintro e w2 ⟨rfl, hb2⟩
 have HB2 := Hd.mk (goes HB.out hb2)
 have HK2 := Hd.mk (HK.out.up hb2)
 have HZ2 := Hd.mk (Nat.le_trans HZ.out hb2.size)
 obtain ⟨⟨t0, t1, t2⟩, t3, t4, t5, t6⟩ := HK2.out.seven
 clear hb2 HK HB CM HZ
 go_wp2_with fail
 refine (CRA.out _ HB2).mono ?_
 rintro e w3 ⟨rfl, hb3⟩
 have HB3 := Hd.mk (goes HB2.out hb3)
 have HK3 := Hd.mk (HK2.out.up hb3)
 have HZ3 := Hd.mk (Nat.le_trans HZ2.out hb3.size)
 obtain ⟨⟨t0, t1, t2⟩, t3, t4, t5, t6⟩ := HK3.out.seven
 clear hb3 HK2 HB2 CRA HZ2
 go_wp2_with fail
 refine (CMM.out _).mono ?_
 rintro e w4 ⟨rfl, hb4⟩
 have HB4 := Hd.mk (goes HB3.out hb4)
 have HK4 := Hd.mk (HK3.out.up hb4)
 have HZ4 := Hd.mk (Nat.le_trans HZ3.out hb4.size)
 clear hb4 HK3 HB3 CMM t0 t1 t2 t3 t4 t5 t6 HZ3
 go_upto_region 4 with (fail)
 refine wp_gen (fun W => Below w4.heap.size w4 W ∧ OwnT W b0 base (.slice (some ⟨w4.heap.size, 0, none⟩) 0 0) []) ⟨(Below.refl _ _).alloc (Nat.le_refl _) _, ownT_lit w4 b0 base HZ4.out⟩ ?_
 intro W5 hW
 have HO5 := Hd.mk hW.out.2
 have HB5 := Hd.mk (goes HB4.out hW.out.1)
 have HK5 := Hd.mk (HK4.out.up hW.out.1)
 have HZ5 := Hd.mk (Nat.le_trans HZ4.out hW.out.1.size)
 clear hW HB4 HK4 HZ4
 generalize w4.heap.size = g4 at HO5 ⊢
 obtain ⟨⟨t0, t1, t2⟩, t3, t4, t5, t6⟩ := HK5.out.seven
 by_cases hz : t.c.num.length = 0
 ·have HF : Hd (E = (0, [])) := ⟨by rw [HE1.out, if_pos hz]⟩
  rw [decide_eq_true hz] at CZ
  clear hz
  go_wp2_with fail
  refine (CZ.out _ HB5).mono ?_
  rintro e w6 ⟨rfl, hb6⟩
  have HB6 := Hd.mk (goes HB5.out hb6)
  clear hb6
  go_wp2_with fail
  go_ret2
  rw [HF.out]
  exact ⟨some ⟨g4, 0, none⟩, 0, rfl, Nat.le_refl _, RPol.nil _ _ _, HB6.out⟩
 have HE2 : Hd (E = timesL t ps) := ⟨by rw [HE1.out, if_neg hz]⟩
 rw [decide_eq_false hz] at CZ
 clear hz HE1
 go_wp2_with fail
 refine (CZ.out _ HB5).mono ?_
 rintro e w6 ⟨rfl, hb6⟩
 have HB6 := Hd.mk (goes HB5.out hb6)
 have HK6 := Hd.mk (HK5.out.up hb6)
 have HO6 := Hd.mk (HO5.out.up hb6)
 have HZ6 := Hd.mk (Nat.le_trans HZ5.out hb6.size)
 clear hb6 HB5 HK5 HO5 HZ5 CZ t0 t1 t2 t3 t4 t5 t6
 go_wp2_with fail
 go_loopw [8, 9] (fun v8 v9 wr => ∃ (i : Nat) (ds : List TermD), v9 = .int .i64 i ∧ i ≤ ps.length ∧ ds.length ≤ i ∧ Hd (OwnT wr b0 base v8 ds) ∧ Hd (E = appD ds (timesL t (ps.drop i))) ∧ Hd (Below w.heap.size w wr) ∧ Hd (Bk wr gb 68 (t.v TA tc TB td)) ∧ Hd (base ≤ wr.heap.size)) (fun _ v _ => ps.length - (intOf v).toNat)
 case atStart => exact ⟨0, [], rfl, by omega, by simp, HO6, ⟨by rw [HE2.out]; exact (appD_nil t ps).symm⟩, HB6, HK6, HZ6⟩
 case round =>
  clear HO6 HB6 HK6 HZ6 HE2
  obtain ⟨i, ds, rfl, hi, hds, HO, HQ, HB, HK, HZ⟩ := hrel
  obtain ⟨Av, cv, rfl, hcv, _, hrv⟩ := HO.out.reads
  have HRV := Hd.mk hrv
  clear hrv
  by_cases hlt : i < ps.length
  ·have i1 : (i : Int) < ps.length := by omega
   have i3 : (0 : Int) ≤ i := by omega
   obtain ⟨ad, B1, c1, B2, c2, s, rfl, hab, hsi, hrt, q0, q1, q2, q3, q4, q5, q6⟩ := (HP.out.up HB.out).get hlt
   obtain ⟨⟨t0, t1, t2⟩, t3, t4, t5, t6⟩ := HK.out.seven
   have HSS := HS.out.2 s (List.mem_of_getElem? hsi.out)
   have CA := Hd.mk (fun W (hB : Hd (Below wr.heap.size wr W)) => rrat_Mul b0 _ _ s.c t.c W (Nat.le_trans HB0.out (Nat.le_trans HB.out.size hB.out.size)) (hrt.out.rat.up hB.out) (HT.out.rat.up (goes HB.out hB.out)) HSS HTS.out)
   have CB := Hd.mk (rmon_Mul s.m t.m)
   have HD : Hd (E = appD ds (timesL t (s :: ps.drop (i + 1)))) := ⟨by
    have e1 : ps[i] = s := by have := hsi.out; rw [List.getElem?_eq_getElem hlt] at this; injection this
    rw [HQ.out, List.drop_eq_getElem_cons hlt, e1]⟩
   have HN := Hd.mk (fun h1 h2 => HD.out.trans (appD_step (t := t) (s := s) (ds := ds) (r := ps.drop (i + 1)) h1 h2))
   have HE1 : Hd ((mulD s.c t.c).1 ≠ 0 → E = ((mulD s.c t.c).1, [])) := ⟨fun h => by rw [HD.out, timesL_cons, if_pos h]; unfold appD; rw [if_pos h]⟩
   have HE2 : Hd ((mulD s.c t.c).1 = 0 → (monMul s.m t.m).1 ≠ 0 → E = ((monMul s.m t.m).1, [])) := ⟨fun h1 h => by rw [HD.out, timesL_cons, if_neg (by simpa using h1), if_pos h]; unfold appD; rw [if_pos h]⟩
   obtain ⟨X1, X2, hX⟩ : ∃ X1 X2, mulD s.c t.c = (X1, X2) := ⟨_, _, rfl⟩
   obtain ⟨Y1, Y2, hY⟩ : ∃ Y1 Y2, monMul s.m t.m = (Y1, Y2) := ⟨_, _, rfl⟩
   rw [hX] at CA HN HE1 HE2
   rw [hY] at CB HN HE2
   have SO := Hd.mk (fun W (hB : Below wr.heap.size wr W) => And.intro (Hd.mk hB) (And.intro (cell_up q0 hB) (And.intro (cell_up q1 hB) (And.intro (cell_up q2 hB) (And.intro (cell_up t0 hB) (And.intro (cell_up t1 hB) (cell_up t2 hB)))))))
   clear hX hY HSS hsi HQ HD
   go_wp2_with fail
   go_region_held3 (fun w' => Hd (Below wr.heap.size wr w') ∧ w'.cell? (ad.add (i * 7)) = some (.bool s.c.neg) ∧ w'.cell? ⟨(ad.add (i * 7)).block, (ad.add (i * 7)).off + 1, none⟩ = some (.slice B1 s.c.num.length c1) ∧ w'.cell? ⟨(ad.add (i * 7)).block, (ad.add (i * 7)).off + 2, none⟩ = some (.slice B2 s.c.den.length c2) ∧
       w'.cell? ⟨gb, 0, none⟩ = some (.bool t.c.neg) ∧ w'.cell? ⟨gb, 1, none⟩ = some (.slice TA t.c.num.length tc) ∧ w'.cell? ⟨gb, 2, none⟩ = some (.slice TB t.c.den.length td))
    (first
     | exact SO.out _ (.refl _ _)
     | exact SO.out _ (Below.refl _ _).drew
     | exact SO.out _ ((Below.refl _ _).drew.alloc (Nat.le_refl _) _)
     | exact SO.out _ ((Below.refl _ _).alloc (Nat.le_refl _) _).drew
     | exact SO.out _ hB5
     | exact SO.out _ (hB5.alloc hB5.size _)
     | exact SO.out _ (((hB5.setCell (Nat.le_refl _) _).setCell (Nat.le_refl _) _).setCell (Nat.le_refl _) _)
     | exact SO.out _ ((((hB5.alloc hB5.size _).setCell hB5.size _).setCell hB5.size _).setCell hB5.size _))
    (first
     | (go_at_call 179; have hB := ‹Hd (Below wr.heap.size wr _) ∧ _›.1; with_reducible refine (CA.out ((wr.alloc (Obj.cells #[.bool false, .slice none 0 0, .slice none 0 0] 64)).drew) hB).mono ?_; rintro e w5 ⟨x, rfl, hx, hb⟩
        have hB5 := hB.out.trans (hb.mono hB.out.size)
        have HX := Hd.mk hx
        have hk := Hd.mk ((Bk.new_ wr 64 #[.bool false, .slice none 0 0, .slice none 0 0]).d1.up hb)
        obtain ⟨p6, p7, p8⟩ := hk.out.three
        have fz := fun i => hk.out.froz i
        obtain ⟨XA, xc, XB, xd, rfl, _, _, _, _⟩ := hx)
     | (go_at_call 179; have hB := ‹Hd (Below wr.heap.size wr _) ∧ _›.1; with_reducible refine (CA.out _ hB).mono ?_; rintro e w5 ⟨x, rfl, hx, hb⟩
        have hB5 := hB.out.trans (hb.mono hB.out.size)
        have HX := Hd.mk hx
        obtain ⟨XA, xc, XB, xd, rfl, _, _, _, _⟩ := hx))
   all_goals
    have hB6 := ‹Hd (Below wr.heap.size wr _) ∧ _›.1
    have HX6 := Hd.mk (at_world (v := .agg #[.bool X2.neg, .slice XA X2.num.length xc, .slice XB X2.den.length xd]) hB6.out (by first | exact HX.out.up ((Below.refl _ _).alloc (Nat.le_refl _) _) | exact RRat.set3 HX.out hk.out (Nat.le_trans HB0.out HB.out.size) _ _ _))
    by_cases hx0 : X1 = 0
    ·have e3 : (X1 != 0) = false := by rw [bne_eq_false_iff_eq]; exact hx0
     have HN2 := Hd.mk (HN.out hx0)
     have HE3 := Hd.mk (HE2.out hx0)
     clear hx0 HN HE1 HE2 CA SO
     go_upto_region 12 with (fail)
     first
      | refine wp_gen (fun W => Below wr.heap.size wr W ∧ RRat W b0 (.agg #[.bool X2.neg, .slice XA X2.num.length xc, .slice XB X2.den.length xd]) X2 ∧ ∃ g, g = w5.heap.size ∧ Bk W g 64 #[.bool X2.neg, .slice XA X2.num.length xc, .slice XB X2.den.length xd]) ⟨hB6.out, HX6.out, _, rfl, Bk.new_ _ _ _⟩ ?_
      | refine wp_gen (fun W => Below wr.heap.size wr W ∧ RRat W b0 (.agg #[.bool X2.neg, .slice XA X2.num.length xc, .slice XB X2.den.length xd]) X2 ∧ ∃ g, g = wr.heap.size ∧ Bk W g 64 #[.bool X2.neg, .slice XA X2.num.length xc, .slice XB X2.den.length xd]) ⟨hB6.out, HX6.out, _, rfl, hk.out.set3 _ _ _⟩ ?_
     intro W7 h7
     obtain ⟨hB7, hX7, g10, hg10, hk10⟩ := h7.out
     rw [← hg10]
     obtain ⟨k0, k1, k2, k3, k4, k5, k6⟩ := Wd.at7 q0 q1 q2 q3 q4 q5 q6
     have k3 := k3 ⟨W7, hB7⟩
     have k4 := k4 ⟨W7, hB7⟩
     have k5 := k5 ⟨W7, hB7⟩
     have k6 := k6 ⟨W7, hB7⟩
     simp only [Wd.w] at k3 k4 k5 k6
     obtain ⟨r0, r1, r2⟩ := hk10.three
     have SO2 := Hd.mk (fun W (hB : Below W7.heap.size W7 W) => And.intro (Hd.mk hB) (And.intro (cell_up k3 hB) (And.intro (cell_up k4 hB) (And.intro (cell_up k5 hB) (And.intro (cell_up k6 hB) (And.intro (cell_up (cell_up t3 hB7) hB) (And.intro (cell_up (cell_up t4 hB7) hB) (And.intro (cell_up (cell_up t5 hB7) hB) (And.intro (cell_up (cell_up t6 hB7) hB) (And.intro (cell_up r0 hB) (And.intro (cell_up r1 hB) (cell_up r2 hB))))))))))))
     have HB7 := Hd.mk hB7
     have HX7 := Hd.mk hX7
     have CB2 := Hd.mk (fun W => CB.out W)
     simp only [MonD.v] at CB2
     clear h7 hB7 hX7 hg10 hk10 k0 k1 k2 k3 k4 k5 k6 r0 r1 r2 t0 t1 t2 t3 t4 t5 t6 q0 q1 q2 q3 q4 q5 q6 CB HX6 hB6 hB5
     go_wp2_with fail
     go_region_held3 (fun w' => Hd (Below W7.heap.size W7 w') ∧ w'.cell? ⟨(ad.add (i * 7)).block, (ad.add (i * 7)).off + 3, none⟩ = some (.int .i64 s.m.x0) ∧ w'.cell? ⟨(ad.add (i * 7)).block, (ad.add (i * 7)).off + 3 + 1, none⟩ = some (.int .i64 s.m.x1) ∧ w'.cell? ⟨(ad.add (i * 7)).block, (ad.add (i * 7)).off + 3 + 2, none⟩ = some (.int .i64 s.m.x2) ∧ w'.cell? ⟨(ad.add (i * 7)).block, (ad.add (i * 7)).off + 3 + 3, none⟩ = some (.int .i64 s.m.x3) ∧
         w'.cell? ⟨gb, 3, none⟩ = some (.int .i64 t.m.x0) ∧ w'.cell? ⟨gb, 4, none⟩ = some (.int .i64 t.m.x1) ∧ w'.cell? ⟨gb, 5, none⟩ = some (.int .i64 t.m.x2) ∧ w'.cell? ⟨gb, 6, none⟩ = some (.int .i64 t.m.x3) ∧
         w'.cell? ⟨g10, 0, none⟩ = some (.bool X2.neg) ∧ w'.cell? ⟨g10, 1, none⟩ = some (.slice XA X2.num.length xc) ∧ w'.cell? ⟨g10, 2, none⟩ = some (.slice XB X2.den.length xd))
      (first
       | exact SO2.out _ (.refl _ _)
       | exact SO2.out _ (Below.refl _ _).drew
       | exact SO2.out _ ((Below.refl _ _).drew.alloc (Nat.le_refl _) _)
       | exact SO2.out _ ((Below.refl _ _).alloc (Nat.le_refl _) _).drew
       | exact SO2.out _ hB8
       | exact SO2.out _ (hB8.alloc hB8.size _)
       | exact SO2.out _ (below_set4 hB8 (Nat.le_refl _) _ _ _ _)
       | exact SO2.out _ (below_set4 (hB8.alloc hB8.size _) hB8.size _ _ _ _))
      (first
       | (go_at_call 201; have hB := ‹Hd (Below W7.heap.size W7 _) ∧ _›.1; with_reducible refine (CB2.out ((W7.alloc (Obj.cells #[.int .i64 0, .int .i64 0, .int .i64 0, .int .i64 0] 66)).drew)).mono ?_; rintro e w8 ⟨rfl, hb⟩
          have hB8 := hB.out.trans (hb.mono hB.out.size)
          have hk2 := Hd.mk ((Bk.new_ W7 66 #[.int .i64 0, .int .i64 0, .int .i64 0, .int .i64 0]).d1.up hb)
          obtain ⟨p1, p2, p3, p4⟩ := hk2.out.four
          have fz2 := fun i => hk2.out.froz i)
       | (go_at_call 201; have hB := ‹Hd (Below W7.heap.size W7 _) ∧ _›.1; with_reducible refine (CB2.out _).mono ?_; rintro e w8 ⟨rfl, hb⟩
          have hB8 := hB.out.trans (hb.mono hB.out.size)))
     all_goals
      have hB9 := ‹Hd (Below W7.heap.size W7 _) ∧ _›.1
      by_cases hy0 : Y1 = 0
      ·have e4 : (Y1 != 0) = false := by rw [bne_eq_false_iff_eq]; exact hy0
       have HV2 := Hd.mk (HN2.out hy0)
       have HB9 := Hd.mk (goes HB7.out hB9.out)
       have HX9 := Hd.mk (HX7.out.up hB9.out)
       have T1 := rpol_one (t := ⟨X2, Y2⟩) (rterm_of HX9.out Y2) 68
       dsimp only at T1
       first | rw [World.size_alloc] at T1 | rw [World.size_setCell, World.size_setCell, World.size_setCell, World.size_setCell] at T1
       obtain ⟨tn, htn⟩ : ∃ tn : TermD, tn = ⟨X2, Y2⟩ := ⟨_, rfl⟩
       rw [← htn] at T1
       rw [show (⟨(X1, X2).2, (Y1, Y2).2⟩ : TermD) = tn from htn.symm] at HV2
       have HT1 := Hd.mk T1
       have xl : ds.length + [tn].length ≤ 1000000 := by simp; omega
       have XL := Hd.mk xl
       clear hy0 HN2 HE3 xl T1 htn
       go_wp2_with (at_builtin; refine wpList_append_T (w0 := w) (us := [tn]) rfl _ _ 25 25 rfl Tryz.slPoly Tryz.slPoly rfl rfl rfl (HO.out.up (HB9.out.alloc HB9.out.size _)) HT1.out HB01.out XL.out (goes HB.out (HB9.out.alloc HB9.out.size _)) HBB.out (Nat.le_trans HZ.out (HB9.out.alloc HB9.out.size _).size) ?_)
       intro v' w10 AP
       have HAP := Hd.mk AP
       clear AP
       have HK10 := Hd.mk (HAP.out.bk (HK.out.up (HB9.out.alloc HB9.out.size _)) HLT.out)
       have HZ10 := Hd.mk (Nat.le_trans (Nat.le_trans HZ.out (HB9.out.alloc HB9.out.size _).size) HAP.out.size)
       have hl10 : (ds ++ [tn]).length ≤ i + 1 := by simp; omega
       go_wp2_with fail
       go_roundw
       case measure => first | (simp [intOf]; done) | (simp [intOf]; omega)
       case rel => exact ⟨i + 1, _, by go_num, by omega, hl10, ⟨HAP.out.own⟩, HV2, ⟨HAP.out.below⟩, HK10, HZ10⟩
      ·have e4 : (Y1 != 0) = true := by rw [bne_iff_ne]; exact hy0
       have HV2 := Hd.mk (HE3.out hy0)
       clear HN2 HE3 hy0
       go_wp2_with fail
       go_ret2
       rw [HV2.out]
       exact ⟨none, 0, rfl, Nat.le_refl _, RPol.nil _ _ _, goes HB.out (goes HB7.out hB9.out)⟩
    ·have e3 : (X1 != 0) = true := by rw [bne_iff_ne]; exact hx0
     have HV2 := Hd.mk (HE1.out hx0)
     clear HE1 HE2 HN hx0
     go_wp2_with fail
     go_ret2
     rw [HV2.out]
     exact ⟨none, 0, rfl, Nat.le_refl _, RPol.nil _ _ _, goes HB.out hB6.out⟩
  ·obtain rfl : i = ps.length := by omega
   have HF : Hd (E = (0, ds)) := ⟨by rw [HQ.out, List.drop_eq_nil_of_le (Nat.le_refl _)]; unfold timesL appD; simp⟩
   go_wp2_with fail
   go_ret2
   rw [HF.out]
   exact ⟨Av, cv, rfl, hcv, HRV.out, HB.out⟩
def polMonic (o : Int) (p : List TermD) : Int × List TermD :=
 if polMay o p = false then (1, []) else match p with
 | [] => (0, [])
 | t :: _ => if (invD t.c).1 ≠ 0 then ((invD t.c).1, []) else polTimes o p ⟨(invD t.c).2, zeroM⟩
theorem invD_short {r : RatD} (h : r.short) : (invD r).2.short := by
 unfold invD
 split
 ·exact zeroD_short
 ·split
  ·exact zeroD_short
  ·exact ⟨h.2, h.1⟩
end Go.Proofs.YtgjkgkgieeoalaaGreat
