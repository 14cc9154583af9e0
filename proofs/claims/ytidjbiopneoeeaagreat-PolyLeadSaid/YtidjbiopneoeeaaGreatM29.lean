/- Parts of the proof, joined: what each says stands at its head. -/
import Derived.Test.YtidjbiopneoeeaaGreatM28
import Derived.Test.YtidjbiopneoeeaaGreatM23
import Derived.Test.YtidjbiopneoeeaaGreatM27
set_option linter.unusedVariables false
set_option linter.unusedSimpArgs false
/- The walk of the ninth law's shown. No condition. -/
namespace Go.Proofs.YtidjbiopneoeeaaGreat
open Go.RowKit

theorem Bo2.al {S g1 g2 : Nat} {w0 w : World} {t1 t2 : TypeId} {c1 c2 : Array Value} (h : Bo2 S g1 g2 w0 w t1 t2 c1 c2) (o : Obj) : Bo2 S g1 g2 w0 (w.alloc o) t1 t2 c1 c2 := h.up ((Below.refl _ _).alloc (Nat.le_refl _) _)
theorem Bk.nw1 (w : World) (o : Obj) (t : TypeId) (cs : Array Value) : Bk ((w.alloc o).alloc (.cells cs t)) (w.heap.size + 1) t cs := by simpa using Bk.new_ (w.alloc o) t cs
theorem Bk.nw2 (w : World) (o o2 : Obj) (t : TypeId) (cs : Array Value) : Bk (((w.alloc o).alloc o2).alloc (.cells cs t)) (w.heap.size + 1 + 1) t cs := by simpa using Bk.new_ ((w.alloc o).alloc o2) t cs
theorem below1 (w : World) (o : Obj) : Below w.heap.size w (w.alloc o) := (Below.refl _ _).alloc (Nat.le_refl _) _
theorem below2 (w : World) (o o2 : Obj) : Below w.heap.size w ((w.alloc o).alloc o2) := (below1 w o).alloc (by simp) _
theorem below3 (w : World) (o o2 o3 : Obj) : Below w.heap.size w (((w.alloc o).alloc o2).alloc o3) := (below2 w o o2).alloc (by simp; omega) _

abbrev tv (r : RatD) (A : Option Addr) (c : Nat) (B : Option Addr) (d : Nat) (a b : Int) : Array Value := #[.bool r.neg, .slice A r.num.length c, .slice B r.den.length d, .int .i64 a, .int .i64 b, .int .i64 0, .int .i64 0]
theorem add_call {W : World} {b0 gA gB gP c1 d1 c2 d2 c3 d3 : Nat} {P Q : RatD} {A1 B1 A2 B2 A3 B3 : Option Addr} (hPQ : ofD 1 = P ∧ ofD (-1) = Q)
    (hA : Bk W gA 67 #[.bool P.neg, .slice A1 P.num.length c1, .slice B1 P.den.length d1, .int .i64 1, .int .i64 0, .int .i64 0, .int .i64 0, .bool P.neg, .slice A2 P.num.length c2, .slice B2 P.den.length d2, .int .i64 0, .int .i64 1, .int .i64 0, .int .i64 0])
    (hB : Bk W gB 67 #[.bool Q.neg, .slice A3 Q.num.length c3, .slice B3 Q.den.length d3, .int .i64 0, .int .i64 1, .int .i64 0, .int .i64 0])
    (hP : Bk W gP 25 #[.slice (some ⟨gA, 0, none⟩) 2 2, .slice (some ⟨gB, 0, none⟩) 1 1])
    (h1 : RTerm W b0 (.agg (tv P A1 c1 B1 d1 1 0)) ⟨P, xM⟩) (h2 : RTerm W b0 (.agg (tv P A2 c2 B2 d2 0 1)) ⟨P, yM⟩) (h3 : RTerm W b0 (.agg (tv Q A3 c3 B3 d3 0 1)) ⟨Q, yM⟩) (hb : b0 ≤ W.heap.size) :
    Calls Tryz.prog 38 #[.int .i64 0, .slice (some ⟨gP, 0, none⟩) 2 2] W fun e w' => ∃ A' c', e = .returned (.tuple #[.slice A' 1 c', .int .i64 0]) ∧ 1 ≤ c' ∧ RPol w' b0 A' [⟨P, xM⟩] ∧ Below W.heap.size W w' := by
  obtain ⟨rfl, rfl⟩ := hPQ
  have r1 : RPol W b0 (some ⟨gA, 0, none⟩) [⟨ofD 1, xM⟩, ⟨ofD 1, yM⟩] := rpol_bk2 (t := 67) (A := A1) (B := B1) (c := c1) (d := d1) (A' := A2) (B' := B2) (c' := c2) (d' := d2) hA h1 h2
  have r2 : RPol W b0 (some ⟨gB, 0, none⟩) [⟨ofD (-1), yM⟩] := rpol_bk1 (t := 67) (A := A3) (B := B3) (c := c3) (d := d3) hB h3
  have rp := rpols_bk2 (p := [⟨ofD 1, xM⟩, ⟨ofD 1, yM⟩]) (q := [⟨ofD (-1), yM⟩]) hP r1 r2 (by decide) (by decide)
  have hs1 := ofD_short 1 (by decide)
  have hs3 := ofD_short (-1) (by decide)
  have := poly_Add b0 0 (some ⟨gP, 0, none⟩) 2 [[⟨ofD 1, xM⟩, ⟨ofD 1, yM⟩], [⟨ofD (-1), yM⟩]] W hb rp (by decide) ⟨by decide, fun p hp => by
    simp only [List.mem_cons, List.not_mem_nil, or_false] at hp
    rcases hp with rfl | rfl
    · exact ⟨by decide, fun t ht => by
        simp only [List.mem_cons, List.not_mem_nil, or_false] at ht
        rcases ht with rfl | rfl <;> exact hs1⟩
    · exact ⟨by decide, fun t ht => by
        simp only [List.mem_cons, List.not_mem_nil, or_false] at ht
        rcases ht with rfl
        exact hs3⟩⟩
  rw [shown_eval] at this
  exact this

set_option maxHeartbeats 4000000 in
set_option maxRecDepth 100000 in
theorem law_shown (w : World) : Calls Tryz.prog 27 #[] w fun e w' => e = .returned (.bool true) ∧ Below w.heap.size w w' := by
  have C1 : Hd (∀ W, Hd (Below w.heap.size w W) → Calls Tryz.prog 29 #[.int .i64 1, .agg #[.int .i64 1, .int .i64 0, .int .i64 0, .int .i64 0]] W fun e w' => ∃ A c B d, e = .returned (.agg (tv (ofD 1) A c B d 1 0)) ∧ RTerm w' w.heap.size (.agg (tv (ofD 1) A c B d 1 0)) ⟨ofD 1, xM⟩ ∧ Below W.heap.size W w') :=
    ⟨fun W hB => law_one w.heap.size 1 xM W hB.out.size (by omega) (by omega)⟩
  have C2 : Hd (∀ W, Hd (Below w.heap.size w W) → Calls Tryz.prog 29 #[.int .i64 1, .agg #[.int .i64 0, .int .i64 1, .int .i64 0, .int .i64 0]] W fun e w' => ∃ A c B d, e = .returned (.agg (tv (ofD 1) A c B d 0 1)) ∧ RTerm w' w.heap.size (.agg (tv (ofD 1) A c B d 0 1)) ⟨ofD 1, yM⟩ ∧ Below W.heap.size W w') :=
    ⟨fun W hB => law_one w.heap.size 1 yM W hB.out.size (by omega) (by omega)⟩
  have C3 : Hd (∀ W, Hd (Below w.heap.size w W) → Calls Tryz.prog 29 #[.int .i64 (-1), .agg #[.int .i64 0, .int .i64 1, .int .i64 0, .int .i64 0]] W fun e w' => ∃ A c B d, e = .returned (.agg (tv (ofD (-1)) A c B d 0 1)) ∧ RTerm w' w.heap.size (.agg (tv (ofD (-1)) A c B d 0 1)) ⟨ofD (-1), yM⟩ ∧ Below W.heap.size W w') :=
    ⟨fun W hB => law_one w.heap.size (-1) yM W hB.out.size (by omega) (by omega)⟩
  have hsh := ofD_short 1 (by decide)
  have HSH : Hd (shortP [⟨ofD 1, xM⟩]) := ⟨by decide, fun t ht => by
    simp only [List.mem_cons, List.not_mem_nil, or_false] at ht
    rcases ht with rfl
    exact hsh⟩
  obtain ⟨P, hP⟩ : ∃ P, ofD 1 = P := ⟨_, rfl⟩
  obtain ⟨Q, hQ⟩ : ∃ Q, ofD (-1) = Q := ⟨_, rfl⟩
  rw [hP] at C1 C2 HSH
  rw [hQ] at C3
  have HPQ := Hd.mk (And.intro hP hQ)
  clear hP hQ hsh
  simp only [tv] at C1 C2 C3
  go_enter Tryz.func27, Tryz.ntmps27
  go_upto_region 3 with (fail)
  refine wp_gen (fun W => Bo2 w.heap.size w.heap.size (w.heap.size + 1) w W 65 65 #[.int .i64 1, .int .i64 0, .int .i64 0, .int .i64 0] #[.int .i64 0, .int .i64 1, .int .i64 0, .int .i64 0]) (Bo2.mk2 w _ _ _ _) ?_
  intro W BX
  generalize w.heap.size + 1 = g2 at BX ⊢
  have SO := Hd.mk (fun W' (hB : Bo2 w.heap.size w.heap.size g2 w W' 65 65 #[.int .i64 1, .int .i64 0, .int .i64 0, .int .i64 0] #[.int .i64 0, .int .i64 1, .int .i64 0, .int .i64 0]) => And.intro (Hd.mk hB) (And.intro hB.k1.four hB.k2.four))
  go_wp2_with fail
  go_region_held3 (fun w' => Hd (Bo2 w.heap.size w.heap.size g2 w w' 65 65 #[.int .i64 1, .int .i64 0, .int .i64 0, .int .i64 0] #[.int .i64 0, .int .i64 1, .int .i64 0, .int .i64 0]) ∧ (w'.cell? ⟨w.heap.size, 0, none⟩ = some (.int .i64 1) ∧ w'.cell? ⟨w.heap.size, 1, none⟩ = some (.int .i64 0) ∧ w'.cell? ⟨w.heap.size, 2, none⟩ = some (.int .i64 0) ∧ w'.cell? ⟨w.heap.size, 3, none⟩ = some (.int .i64 0)) ∧
      w'.cell? ⟨g2, 0, none⟩ = some (.int .i64 0) ∧ w'.cell? ⟨g2, 1, none⟩ = some (.int .i64 1) ∧ w'.cell? ⟨g2, 2, none⟩ = some (.int .i64 0) ∧ w'.cell? ⟨g2, 3, none⟩ = some (.int .i64 0))
    (first
      | with_reducible exact SO.out _ BX7.out
      | with_reducible exact SO.out _ BX3.out
      | with_reducible exact SO.out _ (BX3.out.al _)
      | with_reducible exact SO.out _ ((BX3.out.al _).al _)
      | with_reducible exact SO.out _ (((BX3.out.al _).al _).al _)
      | with_reducible exact SO.out _ BX2.out
      | with_reducible exact SO.out _ (BX2.out.al _)
      | with_reducible exact SO.out _ BX1.out
      | with_reducible exact SO.out _ BX.out
      | with_reducible exact SO.out _ BX.out.d1)
    (first
      | (go_at_call 29; with_reducible refine (C1.out _ ⟨BX.out.d1.below⟩).mono ?_; rintro e w1 ⟨TA1, tc1, TB1, td1, rfl, ht, hb⟩
         have BX1 := Hd.mk (BX.out.d1.up hb)
         have HT1 := Hd.mk ht
         clear ht)
      | (go_at_call 29; with_reducible refine (C2.out _ ⟨BX1.out.below⟩).mono ?_; rintro e w2 ⟨TA2, tc2, TB2, td2, rfl, ht, hb⟩
         have BX2 := Hd.mk (BX1.out.up hb)
         have HT12 := Hd.mk (HT1.out.up hb)
         have HT2 := Hd.mk ht
         clear ht)
      | (go_at_call 29; with_reducible refine (C3.out _ ⟨BX2.out.below⟩).mono ?_; rintro e w3 ⟨TA3, tc3, TB3, td3, rfl, ht, hb⟩
         have BX3 := Hd.mk (BX2.out.up hb)
         have HT13 := Hd.mk (HT12.out.up hb)
         have HT23 := Hd.mk (HT2.out.up hb)
         have HT3 := Hd.mk ht
         clear ht)
      | (go_at_call 29; with_reducible refine (C3.out _ ⟨(BX2.out.al _).below⟩).mono ?_; rintro e w3 ⟨TA3, tc3, TB3, td3, rfl, ht, hb⟩
         have BX3 := Hd.mk ((BX2.out.al _).up hb)
         have HT13 := Hd.mk (HT12.out.up (goes (below1 _ _) hb))
         have HT23 := Hd.mk (HT2.out.up (goes (below1 _ _) hb))
         have HT3 := Hd.mk ht
         have hk := Hd.mk ((Bk.new_ w2 _ _).up hb)
         clear ht)
      | (go_at_call 38; with_reducible refine (add_call HPQ.out ((hk.out.al _).al _) ((Bk.new_ w3 _ _).al _) (Bk.nw1 w3 _ _ _) (HT13.out.up (below2 _ _ _)) (HT23.out.up (below2 _ _ _)) (HT3.out.up (below2 _ _ _)) (Nat.le_trans BX3.out.below.size (below2 _ _ _).size)).mono ?_; rintro e w7 ⟨A7, c7, rfl, hc7, hr7, hb⟩
         have BX7 := Hd.mk (((BX3.out.al _).al _).up hb)
         have HR7 := Hd.mk hr7
         clear hr7)
      | (go_at_call 38; with_reducible refine (add_call HPQ.out (((Bk.new_ w3 _ _).al _).al _) ((Bk.nw1 w3 _ _ _).al _) (Bk.nw2 w3 _ _ _ _) (HT13.out.up (below3 _ _ _ _)) (HT23.out.up (below3 _ _ _ _)) (HT3.out.up (below3 _ _ _ _)) (Nat.le_trans BX3.out.below.size (below3 _ _ _ _).size)).mono ?_; rintro e w7 ⟨A7, c7, rfl, hc7, hr7, hb⟩
         have BX7 := Hd.mk ((((BX3.out.al _).al _).al _).up hb)
         have HR7 := Hd.mk hr7
         clear hr7)
      | (go_at_call 38; with_reducible refine (add_call HPQ.out ((Bk.nw1 w3 _ _ _).al _) (((Bk.new_ w3 _ _).al _).al _) (Bk.nw2 w3 _ _ _ _) (HT13.out.up (below3 _ _ _ _)) (HT23.out.up (below3 _ _ _ _)) (HT3.out.up (below3 _ _ _ _)) (Nat.le_trans BX3.out.below.size (below3 _ _ _ _).size)).mono ?_; rintro e w7 ⟨A7, c7, rfl, hc7, hr7, hb⟩
         have BX7 := Hd.mk ((((BX3.out.al _).al _).al _).up hb)
         have HR7 := Hd.mk hr7
         clear hr7))
  all_goals
    go_wp2_with fail
    refine (C1.out _ ⟨BX7.out.below⟩).mono ?_
    rintro e w8 ⟨TA8, tc8, TB8, td8, rfl, ht, hb⟩
    have BX8 := Hd.mk (BX7.out.up hb)
    have T1 := rpol_one (t := ⟨P, xM⟩) ht 67
    have CS := Hd.mk (rpol_Same w.heap.size A7 _ c7 1 [⟨P, xM⟩] [⟨P, xM⟩] _ (HR7.out.up (goes hb (below1 _ _))) hc7 HSH.out T1 (Nat.le_refl _) HSH.out)
    rw [decide_eq_true rfl] at CS
    clear T1 ht hb
    go_wp2_with fail
    refine CS.out.mono ?_
    rintro e w9 ⟨rfl, hb⟩
    have BX9 := Hd.mk ((BX8.out.al _).up hb)
    clear hb
    go_wp2_with fail
    go_ret
    exact ⟨rfl, BX9.out.below⟩
end Go.Proofs.YtidjbiopneoeeaaGreat
/- The walk of the ninth reference's Make. The condition: short rows. -/
namespace Go.Proofs.YtidjbiopneoeeaaGreat
open Go.RowKit

theorem putD_short {o : Int} {al : List TermD} {t : TermD} (h : ∀ s ∈ al, s.c.short) (ht : t.c.short) : (∀ s ∈ (putD o al t).2, s.c.short) ∧ (putD o al t).2.length ≤ al.length + 1 := by
  unfold putD
  split
  · split
    · exact ⟨fun s (hs : s ∈ []) => (by cases hs), Nat.zero_le _⟩
    · refine ⟨fun s hs => ?_, by unfold setM; simp⟩
      unfold setM at hs
      rw [List.mem_map] at hs
      obtain ⟨p, hp, e⟩ := hs
      split at e
      · subst e; exact addD_short _ _
      · subst e; exact h p hp
  · refine ⟨fun s hs => ?_, by rw [insD_len]; exact Nat.le_refl _⟩
    rcases mem_insD.1 hs with rfl | hs
    · exact ht
    · exact h s hs
theorem polMake_odd {o : Int} {ts : List TermD} {i : Nat} {t : TermD} (h : ts[i]? = some t) (hr : right t = false) : polMake o ts = (1, []) := by
  unfold polMake
  rw [if_pos]
  have : anyOdd ts = true := by
    unfold anyOdd
    rw [List.any_eq_true]
    exact ⟨t, List.mem_of_getElem? h, by rw [hr]; rfl⟩
  rw [this]; simp

set_option maxHeartbeats 8000000 in
set_option maxRecDepth 100000 in
theorem rpol_Make (b0 : Nat) (order : Int) (A : Option Addr) (c : Nat) (ts : List TermD) (w : World) (hb0 : b0 ≤ w.heap.size) (h : RPol w b0 A ts) (hc : ts.length ≤ c) (h9 : ts.length ≤ 50000) (hs : shortP ts) :
    Calls Tryz.prog 35 #[.int .i64 order, .slice A ts.length c] w fun e w' => ∃ A' c', e = .returned (.tuple #[.slice A' (polMake order ts).2.length c', .int .i64 (polMake order ts).1]) ∧
      (polMake order ts).2.length ≤ c' ∧ RPol w' b0 A' (polMake order ts).2 ∧ Below w.heap.size w w' := by
  have HP := Hd.mk h
  have HS := Hd.mk hs
  have HB0 := Hd.mk hb0
  have CO := Hd.mk (rpol_ordered order w)
  clear h hs hb0
  obtain ⟨E, hE⟩ : ∃ E, polMake order ts = E := ⟨_, rfl⟩
  rw [hE]
  have HE := Hd.mk hE
  clear hE
  obtain ⟨ob, hob⟩ : ∃ ob, ordered order = ob := ⟨_, rfl⟩
  rw [hob] at CO
  have HO := Hd.mk hob
  clear hob
  cases ob
  · have HF : Hd (E = (1, [])) := ⟨by rw [← HE.out]; unfold polMake; rw [HO.out]; rfl⟩
    go_enter Tryz.func35, Tryz.ntmps35
    go_wp2_with fail
    refine CO.out.mono ?_
    rintro e w2 ⟨rfl, rfl⟩
    go_wp2_with fail
    go_ret2
    rw [HF.out]
    exact ⟨none, 0, rfl, Nat.le_refl _, RPol.nil _ _ _, .refl _ _⟩
  go_enter Tryz.func35, Tryz.ntmps35
  go_wp2_with fail
  refine CO.out.mono ?_
  rintro e w2 ⟨rfl, rfl⟩
  clear CO
  go_wp2_with fail
  go_loopw [6] (fun v wr => ∃ i : Nat, v = .int .i64 i ∧ i ≤ ts.length ∧ Hd (Below w.heap.size w wr) ∧ Hd (∀ s ∈ ts.take i, right s = true)) (fun v _ => ts.length - (intOf v).toNat)
  case atStart => exact ⟨0, rfl, by omega, ⟨.refl _ _⟩, ⟨by simp⟩⟩
  case round =>
    obtain ⟨i, rfl, hi, hb, ha⟩ := hrel
    by_cases hlt : i < ts.length
    · have i1 : (i : Int) < ts.length := by omega
      have i3 : (0 : Int) ≤ i := by omega
      obtain ⟨ad, B1, c1, B2, c2, t, rfl, hab, ht, hrt, q0, q1, q2, q3, q4, q5, q6⟩ := (HP.out.up hb.out).get hlt
      obtain ⟨k0, k1, k2, k3, k4, k5, k6⟩ := Wd.at7 q0 q1 q2 q3 q4 q5 q6
      have hst := HS.out.2 t (List.mem_of_getElem? ht.out)
      have C1 := Hd.mk (rrat_May b0 _ t.c wr hrt.out.rat hst)
      have C2 := Hd.mk (rmon_May t.m)
      have HR : Hd (right t = (ratMay t.c && monMay t.m)) := ⟨rfl⟩
      have HG : Hd (right t = true → ∀ s ∈ ts.take (i + 1), right s = true) := ⟨fun hr s hs => by
        have e1 : ts[i] = t := by have := ht.out; rw [List.getElem?_eq_getElem hlt] at this; injection this
        rw [List.take_succ_eq_append_getElem hlt, e1, List.mem_append, List.mem_singleton] at hs
        rcases hs with hs | rfl
        · exact ha.out s hs
        · exact hr⟩
      have HN := Hd.mk (fun hr => HE.out.symm.trans (polMake_odd (o := order) ht.out hr))
      clear hst ht q3 q4 q5 q6
      cases hm1 : ratMay t.c
      · rw [hm1] at C1
        have HF := Hd.mk (HN.out (by rw [HR.out, hm1]; rfl))
        clear hm1
        go_wp2_with fail
        refine C1.out.mono ?_
        rintro e w3 ⟨rfl, hb3⟩
        have HB3 := Hd.mk (goes hb.out hb3)
        clear hb3
        go_wp2_with fail
        go_ret2
        rw [HF.out]
        exact ⟨none, 0, rfl, Nat.le_refl _, RPol.nil _ _ _, HB3.out⟩
      rw [hm1] at C1 HR
      clear hm1
      go_wp2_with fail
      refine C1.out.mono ?_
      rintro e w3 ⟨rfl, hb3⟩
      have HB3 := Hd.mk (goes hb.out hb3)
      have k3 := k3 ⟨w3, hb3⟩
      have k4 := k4 ⟨w3, hb3⟩
      have k5 := k5 ⟨w3, hb3⟩
      have k6 := k6 ⟨w3, hb3⟩
      simp only [Wd.w] at k3 k4 k5 k6
      clear hb3 k0 k1 k2 C1 q0 q1 q2
      cases hm2 : monMay t.m
      · rw [hm2] at C2
        have HF := Hd.mk (HN.out (by rw [HR.out, hm2]; rfl))
        clear hm2
        go_wp2_with fail
        refine (C2.out _).mono ?_
        rintro e w4 ⟨rfl, hb4⟩
        have HB4 := Hd.mk (goes HB3.out hb4)
        clear hb4
        go_wp2_with fail
        go_ret2
        rw [HF.out]
        exact ⟨none, 0, rfl, Nat.le_refl _, RPol.nil _ _ _, HB4.out⟩
      · rw [hm2] at C2
        have HF := Hd.mk (HG.out (by rw [HR.out, hm2]; rfl))
        clear hm2
        go_wp2_with fail
        refine (C2.out _).mono ?_
        rintro e w4 ⟨rfl, hb4⟩
        have HB4 := Hd.mk (goes HB3.out hb4)
        clear hb4
        go_wp2_with fail
        go_roundw
        case measure => first | (simp [intOf]; done) | (simp [intOf]; omega)
        case rel => exact ⟨i + 1, by go_num, by omega, HB4, HF⟩
    · obtain rfl : i = ts.length := by omega
      have HR : Hd (∀ s ∈ ts, right s = true) := ⟨by have := ha.out; rwa [List.take_length] at this⟩
      have HE2 : Hd (E = if (putAll order [] ts).1 ≠ 0 then ((putAll order [] ts).1, []) else if 60 < ((putAll order [] ts).2.filter nz).length then (90, []) else (0, (putAll order [] ts).2.filter nz)) := ⟨by
        rw [← HE.out]
        unfold polMake
        have : anyOdd ts = false := by
          unfold anyOdd
          rw [List.any_eq_false]
          intro s hs
          rw [HR.out s hs]; simp
        rw [HO.out, this, if_neg (by simp)]⟩
      have HOK := Hd.mk (ordered_ok.1 HO.out)
      clear ha HE
      go_upto_region 9 with (fail)
      refine wp_gen (fun W => Below w.heap.size w W ∧ RPol W b0 (some ⟨wr.heap.size, 0, none⟩) []) ⟨hb.out.alloc hb.out.size _, RPol.nil _ _ _⟩ ?_
      intro W0 hW
      have HB := Hd.mk hW.out.1
      have H0 := Hd.mk hW.out.2
      clear hW hb
      generalize wr.heap.size = g0 at H0 ⊢
      go_wp2_with fail
      go_loopw [7, 8] (fun v7 v8 wr => ∃ (i : Nat) (al : List TermD) (A' : Option Addr) (c' : Nat), v8 = .int .i64 i ∧ v7 = .slice A' al.length c' ∧ i ≤ ts.length ∧ al.length ≤ i ∧ al.length ≤ c' ∧ Hd (RPol wr b0 A' al) ∧ Hd (Sta order al ∧ ∀ s ∈ al, s.c.short) ∧ Hd (putAll order al (ts.drop i) = putAll order [] ts) ∧ Hd (Below w.heap.size w wr)) (fun _ v _ => ts.length - (intOf v).toNat)
      case atStart => exact ⟨0, [], _, _, rfl, rfl, by omega, by simp, Nat.le_refl _, H0, ⟨.nil HOK.out, fun s h => by cases h⟩, ⟨rfl⟩, HB⟩
      case round =>
        clear H0 HB
        obtain ⟨i, al, A', c', rfl, rfl, hi, hal, hac, HA, HST, HQ, HB⟩ := hrel
        by_cases hlt : i < ts.length
        · have i1 : (i : Int) < ts.length := by omega
          have i3 : (0 : Int) ≤ i := by omega
          obtain ⟨ad, B1, c1, B2, c2, t, rfl, hab, ht, hrt, q0, q1, q2, q3, q4, q5, q6⟩ := (HP.out.up HB.out).get hlt
          have hst := HS.out.2 t (List.mem_of_getElem? ht.out)
          have hmt : monMay t.m = true := by
            have := HR.out t (List.mem_of_getElem? ht.out)
            unfold right at this
            rw [Bool.and_eq_true] at this
            exact this.2
          have CP := Hd.mk (rpol_put b0 order A' c' al _ t wr (Nat.le_trans HB0.out HB.out.size) HA.out hac (by omega) ⟨by omega, HST.out.2⟩ hrt.out hst hmt HST.out.1)
          have HD : Hd (putAll order [] ts = if (putD order al t).1 ≠ 0 then ((putD order al t).1, []) else putAll order (putD order al t).2 (ts.drop (i + 1))) := ⟨by
            have e1 : ts[i] = t := by have := ht.out; rw [List.getElem?_eq_getElem hlt] at this; injection this
            rw [← HQ.out, List.drop_eq_getElem_cons hlt, e1]; rfl⟩
          have HN : Hd ((putD order al t).1 = 0 → Sta order (putD order al t).2) := ⟨fun he => HST.out.1.putD hmt he⟩
          have HSH := Hd.mk (putD_short (o := order) (al := al) (t := t) HST.out.2 hst)
          obtain ⟨X1, X2, hX⟩ : ∃ X1 X2, putD order al t = (X1, X2) := ⟨_, _, rfl⟩
          rw [hX] at CP HD HN HSH
          clear hst hmt ht hX hrt
          go_wp2_with fail
          refine CP.out.mono ?_
          rintro e w3 ⟨A3, c3, rfl, hc3, hr3, hb3⟩
          have HB3 := Hd.mk (goes HB.out hb3)
          have HA3 := Hd.mk hr3
          have hl3 : X2.length ≤ i + 1 := Nat.le_trans HSH.out.2 (by omega)
          clear hb3 hr3 q0 q1 q2 q3 q4 q5 q6 CP
          by_cases he : X1 = 0
          · have e1 : (X1 != 0) = false := by rw [bne_eq_false_iff_eq]; exact he
            have HD2 : Hd (putAll order X2 (ts.drop (i + 1)) = putAll order [] ts) := ⟨by rw [HD.out, if_neg (by simpa using he)]⟩
            have HST2 : Hd (Sta order X2 ∧ ∀ s ∈ X2, s.c.short) := ⟨HN.out he, HSH.out.1⟩
            clear he
            go_wp2_with fail
            go_roundw
            case measure => first | (simp [intOf]; done) | (simp [intOf]; omega)
            case rel => exact ⟨i + 1, X2, A3, c3, by go_num, rfl, by omega, hl3, hc3, HA3, HST2, HD2, HB3⟩
          · have e1 : (X1 != 0) = true := by rw [bne_iff_ne]; exact he
            have HF : Hd (E = (X1, [])) := ⟨by
              have hp : putAll order [] ts = (X1, []) := HD.out.trans (if_pos he)
              rw [HE2.out, hp]; exact if_pos he⟩
            clear he
            go_wp2_with fail
            go_ret2
            rw [HF.out]
            exact ⟨none, 0, rfl, Nat.le_refl _, RPol.nil _ _ _, HB3.out⟩
        · obtain rfl : i = ts.length := by omega
          have HQ2 : Hd (putAll order [] ts = (0, al)) := ⟨by rw [← HQ.out, List.drop_eq_nil_of_le (Nat.le_refl _)]; rfl⟩
          have HE3 : Hd (E = if 60 < (al.filter nz).length then (90, []) else (0, al.filter nz)) := ⟨by rw [HE2.out, HQ2.out, if_neg (by simp)]⟩
          have HAS := Hd.mk HST.out.2
          obtain ⟨wA, hwA⟩ : ∃ x, x = wr := ⟨wr, rfl⟩
          subst hwA
          have HB0A := Hd.mk (Nat.le_trans HB0.out HB.out.size)
          clear HQ HQ2 HE2 HST
          go_upto_region 17 with (fail)
          refine wp_gen (fun W => Below wA.heap.size wA W ∧ OwnT W b0 wA.heap.size (.slice (some ⟨wA.heap.size, 0, none⟩) 0 0) []) ⟨(Below.refl _ _).alloc (Nat.le_refl _) _, ownT_lit wA b0 wA.heap.size (Nat.le_refl _)⟩ ?_
          intro W1 hW
          have HO1 := Hd.mk hW.out.2
          have HB1 := Hd.mk hW.out.1
          clear hW
          go_wp2_with fail
          go_loopw [11, 12] (fun v11 v12 wr => ∃ (i : Nat) (acc : List TermD), v12 = .int .i64 i ∧ i ≤ al.length ∧ acc.length ≤ i ∧ Hd (OwnT wr b0 wA.heap.size v11 acc) ∧ Hd (acc = (al.take i).filter nz) ∧ Hd (Below wA.heap.size wA wr)) (fun _ v _ => al.length - (intOf v).toNat)
          case atStart => exact ⟨0, [], rfl, by omega, by simp, HO1, ⟨rfl⟩, HB1⟩
          case round =>
            clear HO1 HB1
            obtain ⟨i, acc, rfl, hi, hacc, HO, HQ, HB2⟩ := hrel
            obtain ⟨Av, cv, rfl, hcv, _, hrv⟩ := HO.out.reads
            have HRV := Hd.mk hrv
            clear hrv
            by_cases hlt : i < al.length
            · have i1 : (i : Int) < al.length := by omega
              have i3 : (0 : Int) ≤ i := by omega
              obtain ⟨ad, B1, c1, B2, c2, t, rfl, hab, ht, hrt, q0, q1, q2, q3, q4, q5, q6⟩ := (HA.out.up HB2.out).get hlt
              have CZ := Hd.mk (rrat_Zero b0 _ t.c wr hrt.out.rat)
              have HT : Hd ((al.take (i + 1)).filter nz = acc ++ [t].filter nz) := ⟨by
                have e1 : al[i] = t := by have := ht.out; rw [List.getElem?_eq_getElem hlt] at this; injection this
                rw [List.take_succ_eq_append_getElem hlt, e1, List.filter_append, HQ.out]⟩
              obtain ⟨zb, hzb⟩ : ∃ zb, decide (t.c.num.length = 0) = zb := ⟨_, rfl⟩
              have HZ : Hd (nz t = !zb) := ⟨by unfold nz; rw [hzb]⟩
              rw [hzb] at CZ
              clear hzb HQ ht
              cases zb
              · have HT2 : Hd (acc ++ [t] = (al.take (i + 1)).filter nz) := ⟨by rw [HT.out, List.filter_cons, HZ.out]; rfl⟩
                have xl : acc.length + [t].length ≤ 1000000 := by simp; omega
                have XL := Hd.mk xl
                clear HT HZ xl
                go_wp2_with fail
                refine CZ.out.mono ?_
                rintro e w4 ⟨rfl, hb4⟩
                have HB4 := Hd.mk (goes HB2.out hb4)
                have HO4 := Hd.mk (HO.out.up hb4)
                have HT4 := Hd.mk (hrt.out.up hb4)
                have r0 := cell_up q0 hb4
                have r1 := cell_up q1 hb4
                have r2 := cell_up q2 hb4
                have r3 := cell_up q3 hb4
                have r4 := cell_up q4 hb4
                have r5 := cell_up q5 hb4
                have r6 := cell_up q6 hb4
                clear hb4 q0 q1 q2 q3 q4 q5 q6 CZ hrt
                go_wp2_with (at_builtin; refine wpList_append_T (w0 := wA) (us := [t]) rfl _ _ 25 25 rfl Tryz.slPoly Tryz.slPoly rfl rfl rfl (HO4.out.up ((Below.refl _ _).alloc (Nat.le_refl _) _)) (rpol_one HT4.out _) HB0A.out XL.out (goes HB4.out ((Below.refl _ _).alloc (Nat.le_refl _) _)) (Nat.le_refl _) (goes HB4.out ((Below.refl _ _).alloc (Nat.le_refl _) _)).size ?_)
                intro v' w8 AP
                have HAP := Hd.mk AP
                clear AP
                have hl8 : (acc ++ [t]).length ≤ i + 1 := by simp; omega
                go_wp2_with fail
                go_roundw
                case measure => first | (simp [intOf]; done) | (simp [intOf]; omega)
                case rel => exact ⟨i + 1, acc ++ [t], by go_num, by omega, hl8, ⟨HAP.out.own⟩, HT2, ⟨HAP.out.below⟩⟩
              · have HT2 : Hd (acc = (al.take (i + 1)).filter nz) := ⟨by rw [HT.out, List.filter_cons, HZ.out]; simp⟩
                clear HT HZ
                go_wp2_with fail
                refine CZ.out.mono ?_
                rintro e w4 ⟨rfl, hb4⟩
                have HB4 := Hd.mk (goes HB2.out hb4)
                have HO4 := Hd.mk (HO.out.up hb4)
                clear hb4 CZ hrt
                go_wp2_with fail
                go_roundw
                case measure => first | (simp [intOf]; done) | (simp [intOf]; omega)
                case rel => exact ⟨i + 1, acc, by go_num, by omega, by omega, HO4, HT2, HB4⟩
            · obtain rfl : i = al.length := by omega
              have HQ2 : Hd (E = if 60 < acc.length then (90, []) else (0, acc)) := ⟨by rw [HE3.out, HQ.out, List.take_length]⟩
              clear HQ
              by_cases h60 : 60 < acc.length
              · have HF : Hd (E = (90, [])) := ⟨by rw [HQ2.out, if_pos h60]⟩
                clear HQ2
                go_wp2_with fail
                go_ret2
                rw [HF.out]
                exact ⟨none, 0, rfl, Nat.le_refl _, RPol.nil _ _ _, goes HB.out HB2.out⟩
              · have HF : Hd (E = (0, acc)) := ⟨by rw [HQ2.out, if_neg h60]⟩
                clear HQ2
                go_wp2_with fail
                go_ret2
                rw [HF.out]
                exact ⟨Av, cv, rfl, hcv, HRV.out, goes HB.out HB2.out⟩
end Go.Proofs.YtidjbiopneoeeaaGreat
/- The walks of ratio.Same and poly.Same. The condition: short rows. -/
namespace Go.Proofs.YtidjbiopneoeeaaGreat
open Go.RowKit

set_option maxHeartbeats 2000000 in
set_option maxRecDepth 100000 in
theorem ratio_Same (b0 : Nat) (v u : Value) (r s : RatD) (w : World) (h : RRat w b0 v r) (h' : RRat w b0 u s) (hr : r.short) (hs : s.short) :
    Calls Tryz.prog 103 #[v, u] w fun e w' => e = .returned (.bool (sameR r s)) ∧ Below w.heap.size w w' := by
  obtain ⟨A, c, B, d, rfl, h1, h2, h3, h4⟩ := h
  obtain ⟨A', c', B', d', rfl, h1', h2', h3', h4'⟩ := h'
  obtain ⟨hr1, hr2⟩ := hr
  obtain ⟨hs1, hs2⟩ := hs
  have C1 := Hd.mk (fun W (hb : Hd (Below w.heap.size w W)) => slices_Equal A A' c c' r.num s.num W (h3.rd.up hb.out) h1 (h3'.rd.up hb.out) h1' (by omega) (by omega))
  have C2 := Hd.mk (fun W (hb : Hd (Below w.heap.size w W)) => slices_Equal B B' d d' r.den s.den W (h4.rd.up hb.out) h2 (h4'.rd.up hb.out) h2' (by omega) (by omega))
  have HE : Hd (sameR r s = ((r.neg == s.neg) && decide (r.num = s.num) && decide (r.den = s.den))) := ⟨rfl⟩
  obtain ⟨E, hE⟩ : ∃ E, sameR r s = E := ⟨_, rfl⟩
  rw [hE] at HE ⊢
  generalize decide (r.num = s.num) = b1 at C1 HE
  generalize decide (r.den = s.den) = b2 at C2 HE
  clear h3 h4 h3' h4' hE
  go_enter Tryz.func103, Tryz.ntmps103
  go_upto_region 1 with (fail)
  refine wp_gen (fun W => Bx2 w.heap.size w.heap.size (w.heap.size + 1) w W 63 #[.bool r.neg, .slice A r.num.length c, .slice B r.den.length d] (.bool s.neg) (.slice A' s.num.length c') (.slice B' s.den.length d')) (Bx2.mk2 w _ _ _ _ _) ?_
  intro W BX
  generalize w.heap.size + 1 = g2 at BX ⊢
  obtain ⟨p0, p1, p2⟩ := BX.out.k1.three
  obtain ⟨p3, p4, p5⟩ := BX.out.k2.three
  cases e0 : r.neg == s.neg
  · have HF : Hd (E = false) := ⟨by rw [HE.out, e0]; rfl⟩
    go_wp2_with fail
    go_ret
    exact ⟨retBool HF.out.symm, BX.out.below⟩
  cases b1
  · have HF : Hd (E = false) := ⟨by rw [HE.out, Bool.and_false]; rfl⟩
    go_wp2_with fail
    refine (C1.out _ ⟨BX.out.below⟩).mono ?_
    rintro e w2 ⟨rfl, hd⟩
    have BX2 := Hd.mk (BX.out.up hd.below)
    clear hd
    go_wp2_with fail
    go_ret
    exact ⟨retBool HF.out.symm, BX2.out.below⟩
  · have HF : Hd (E = b2) := ⟨by rw [HE.out, e0]; cases b2 <;> rfl⟩
    go_wp2_with fail
    refine (C1.out _ ⟨BX.out.below⟩).mono ?_
    rintro e w2 ⟨rfl, hd⟩
    have BX2 := Hd.mk (BX.out.up hd.below)
    obtain ⟨p0, p1, p2⟩ := BX2.out.k1.three
    obtain ⟨p3, p4, p5⟩ := BX2.out.k2.three
    clear hd
    go_wp2_with fail
    refine (C2.out _ ⟨BX2.out.below⟩).mono ?_
    rintro e w3 ⟨rfl, hd⟩
    have BX3 := Hd.mk (BX2.out.up hd.below)
    clear hd
    go_wp2_with fail
    go_ret
    exact ⟨retBool HF.out.symm, BX3.out.below⟩


theorem termEq_iff {s t : TermD} : decide (s = t) = (decide (s.m = t.m) && sameR s.c t.c) := by
  rw [Bool.eq_iff_iff]
  simp only [decide_eq_true_eq, Bool.and_eq_true, sameR_iff]
  exact ⟨fun h => by rw [h]; exact ⟨rfl, rfl⟩, fun h => by cases s; cases t; simp at h; simp [h.1, h.2]⟩

set_option maxHeartbeats 2000000 in
set_option maxRecDepth 100000 in
theorem Same_1 (b0 : Nat) (v u : Value) (s t : TermD) (w : World) (h : RTerm w b0 v s) (h' : RTerm w b0 u t) (hs : s.c.short) (ht : t.c.short) :
    Calls Tryz.prog 102 #[v, u] w fun e w' => e = .returned (.bool (decide (s = t))) ∧ Below w.heap.size w w' := by
  obtain ⟨A, c, B, d, rfl, x1, x2, x3, x4⟩ := h
  obtain ⟨A', c', B', d', rfl, y1, y2, y3, y4⟩ := h'
  have CS := Hd.mk (fun W (hB : Below w.heap.size w W) => ratio_Same b0 (.agg #[.bool s.c.neg, .slice A s.c.num.length c, .slice B s.c.den.length d]) (.agg #[.bool t.c.neg, .slice A' t.c.num.length c', .slice B' t.c.den.length d']) s.c t.c W ⟨_, _, _, _, rfl, x1, x2, x3.up hB, x4.up hB⟩ ⟨_, _, _, _, rfl, y1, y2, y3.up hB, y4.up hB⟩ hs ht)
  have HE := Hd.mk (termEq_iff (s := s) (t := t))
  have eqm := fun W => eq_mono s.m t.m W
  obtain ⟨mb, hmb⟩ : ∃ mb, decide (s.m = t.m) = mb := ⟨_, rfl⟩
  obtain ⟨sb, hsb⟩ : ∃ sb, sameR s.c t.c = sb := ⟨_, rfl⟩
  rw [hmb, hsb] at HE
  rw [hsb] at CS
  simp only [hmb] at eqm
  rw [HE.out]
  clear x3 x4 y3 y4 hmb hsb HE
  go_enter Tryz.func102, Tryz.ntmps102
  go_upto_region 1 with (fail)
  refine wp_gen (fun W => Bo2 w.heap.size w.heap.size (w.heap.size + 1) w W 67 67 #[.bool s.c.neg, .slice A s.c.num.length c, .slice B s.c.den.length d, .int .i64 s.m.x0, .int .i64 s.m.x1, .int .i64 s.m.x2, .int .i64 s.m.x3] #[.bool t.c.neg, .slice A' t.c.num.length c', .slice B' t.c.den.length d', .int .i64 t.m.x0, .int .i64 t.m.x1, .int .i64 t.m.x2, .int .i64 t.m.x3]) (Bo2.mk2 w _ _ _ _) ?_
  intro W BX
  generalize w.heap.size + 1 = g2 at BX ⊢
  obtain ⟨⟨p0, p1, p2⟩, p3, p4, p5, p6⟩ := BX.out.k1.seven
  obtain ⟨⟨q0, q1, q2⟩, q3, q4, q5, q6⟩ := BX.out.k2.seven
  cases mb
  · go_wp2_with fail
    go_ret
    exact ⟨rfl, BX.out.below⟩
  · go_wp2_with fail
    refine (CS.out _ BX.out.below).mono ?_
    rintro e w3 ⟨rfl, hb⟩
    have HB3 := Hd.mk (goes BX.out.below hb)
    clear hb
    go_wp2_with fail
    go_ret
    exact ⟨rfl, HB3.out⟩

set_option maxHeartbeats 4000000 in
set_option maxRecDepth 100000 in
theorem poly_Same (b0 : Nat) (A B : Option Addr) (c d : Nat) (ps qs : List TermD) (w : World) (h : RPol w b0 A ps) (hc : ps.length ≤ c) (hs : shortP ps) (h' : RPol w b0 B qs) (hc' : qs.length ≤ d) (hs' : shortP qs) :
    Calls Tryz.prog 36 #[.slice A ps.length c, .slice B qs.length d] w fun e w' => e = .returned (.bool (decide (ps = qs))) ∧ Below w.heap.size w w' := by
  have CE : Calls Tryz.prog 101 #[.slice A ps.length c, .slice B qs.length d, .func (.func 102) #[] #[]] w fun e w' => e = .returned (.bool (decide (ps = qs))) ∧ Below w.heap.size w w' := by
    have hl := hs.1
    have hl' := hs'.1
    have HP := Hd.mk h
    have HS := Hd.mk hs
    have HP' := Hd.mk h'
    have HS' := Hd.mk hs'
    clear h hs h' hs'
    by_cases hlen : ps.length = qs.length
    · have e1 : ((ps.length : Int) != (qs.length : Int)) = false := by rw [bne_eq_false_iff_eq]; omega
      have HL := Hd.mk hlen
      clear hlen
      go_enter Tryz.func101, Tryz.ntmps101
      go_wp2_with fail
      go_loopw [17] (fun v wr => ∃ i : Nat, v = .int .i64 i ∧ i ≤ ps.length ∧ Hd (Below w.heap.size w wr) ∧ Hd (ps.take i = qs.take i)) (fun v _ => ps.length - (intOf v).toNat)
      case atStart => exact ⟨0, rfl, by omega, ⟨.refl _ _⟩, ⟨rfl⟩⟩
      case round =>
        obtain ⟨i, rfl, hi, hb, ha⟩ := hrel
        by_cases hlt : i < ps.length
        · have hlt2 : i < qs.length := by have := HL.out; omega
          have i1 : (i : Int) < ps.length := by omega
          have i2 : (i : Int) < qs.length := by omega
          have i3 : (0 : Int) ≤ i := by omega
          obtain ⟨ad, B1, c1, B2, c2, t, rfl, hab, ht, hrt, q0, q1, q2, q3, q4, q5, q6⟩ := (HP.out.up hb.out).get hlt
          obtain ⟨ad', B1', c1', B2', c2', t', rfl, hab', ht', hrt', r0, r1, r2, r3, r4, r5, r6⟩ := (HP'.out.up hb.out).get hlt2
          have hst := (HS.out.2 t (List.mem_of_getElem? ht.out))
          have hst' := (HS'.out.2 t' (List.mem_of_getElem? ht'.out))
          have HG : Hd (ps[i] = t ∧ qs[i] = t') := ⟨by
            have e1 := ht.out; have e2 := ht'.out
            rw [List.getElem?_eq_getElem hlt] at e1; rw [List.getElem?_eq_getElem hlt2] at e2
            exact ⟨Option.some.inj e1, Option.some.inj e2⟩⟩
          have CS := Hd.mk (fun W (hB : Below wr.heap.size wr W) => Same_1 b0 _ _ t t' W (hrt.out.up hB) (hrt'.out.up hB) hst hst')
          have HN := Hd.mk (show t ≠ t' → decide (ps = qs) = false from fun hne => decide_eq_false fun e => hne (by rw [← HG.out.1, ← HG.out.2]; subst e; rfl))
          have HQ := Hd.mk (show t = t' → ps.take (i + 1) = qs.take (i + 1) from fun e => by
            rw [List.take_succ_eq_append_getElem hlt, List.take_succ_eq_append_getElem hlt2, ha.out, HG.out.1, HG.out.2, e])
          clear hst hst' hrt hrt' ht ht' HG
          go_upto_region 6 with (fail)
          refine wp_gen (fun W => Below wr.heap.size wr W ∧ Bk W wr.heap.size 67 #[.bool t.c.neg, .slice B1 t.c.num.length c1, .slice B2 t.c.den.length c2, .int .i64 t.m.x0, .int .i64 t.m.x1, .int .i64 t.m.x2, .int .i64 t.m.x3]) ⟨(Below.refl _ _).alloc (Nat.le_refl _) _, Bk.new_ _ _ _⟩ ?_
          intro W hW
          have hb1 := hW.out.1
          have r0 := cell_up r0 hb1
          have r1 := cell_up r1 hb1
          have r2 := cell_up r2 hb1
          have r3 := cell_up r3 hb1
          have r4 := cell_up r4 hb1
          have r5 := cell_up r5 hb1
          have r6 := cell_up r6 hb1
          have K1 := Hd.mk hW.out.2
          have HB1 := Hd.mk hb1
          obtain ⟨g1, hg1⟩ : ∃ g, wr.heap.size = g := ⟨_, rfl⟩
          rw [hg1] at K1 ⊢
          clear hW hb1 hg1 q0 q1 q2 q3 q4 q5 q6
          go_upto_region 7 with (fail)
          refine wp_gen (fun W2 => Below W.heap.size W W2 ∧ Bk W2 W.heap.size 67 #[.bool t'.c.neg, .slice B1' t'.c.num.length c1', .slice B2' t'.c.den.length c2', .int .i64 t'.m.x0, .int .i64 t'.m.x1, .int .i64 t'.m.x2, .int .i64 t'.m.x3]) ⟨(Below.refl _ _).alloc (Nat.le_refl _) _, Bk.new_ _ _ _⟩ ?_
          intro W2 hW
          have HB2 := Hd.mk (goes HB1.out hW.out.1)
          obtain ⟨⟨s0, s1, s2⟩, s3, s4, s5, s6⟩ := (K1.out.up hW.out.1).seven
          obtain ⟨⟨u0, u1, u2⟩, u3, u4, u5, u6⟩ := hW.out.2.seven
          obtain ⟨g2, hg2⟩ : ∃ g, W.heap.size = g := ⟨_, rfl⟩
          rw [hg2] at u0 u1 u2 u3 u4 u5 u6 ⊢
          clear hW hg2 r0 r1 r2 r3 r4 r5 r6 K1
          by_cases he : t = t'
          · have HF := Hd.mk (HQ.out he)
            rw [decide_eq_true he] at CS
            clear he
            go_wp2_with fail
            refine (CS.out _ HB2.out).mono ?_
            rintro e w5 ⟨rfl, hb5⟩
            have HB5 := Hd.mk (goes hb.out (goes HB2.out hb5))
            clear hb5
            go_wp2_with fail
            go_roundw
            case measure => first | (simp [intOf]; done) | (simp [intOf]; omega)
            case rel => exact ⟨i + 1, by go_num, by omega, HB5, HF⟩
          · have HF := Hd.mk (HN.out he)
            rw [decide_eq_false he] at CS
            clear he
            go_wp2_with fail
            refine (CS.out _ HB2.out).mono ?_
            rintro e w5 ⟨rfl, hb5⟩
            have HB5 := Hd.mk (goes hb.out (goes HB2.out hb5))
            clear hb5
            go_wp2_with fail
            go_ret
            exact ⟨retBool HF.out.symm, HB5.out⟩
        · obtain rfl : i = ps.length := by omega
          have HF : Hd (ps = qs) := ⟨by have := ha.out; rwa [List.take_length, HL.out, List.take_length] at this⟩
          go_wp2_with fail
          go_ret
          exact ⟨retBool (decide_eq_true HF.out).symm, hb.out⟩
    · have e1 : ((ps.length : Int) != (qs.length : Int)) = true := by rw [bne_iff_ne]; omega
      have HL := Hd.mk hlen
      clear hlen
      go_enter Tryz.func101, Tryz.ntmps101
      go_wp2_with fail
      go_ret
      exact ⟨retBool (decide_eq_false (fun e => HL.out (by rw [e]))).symm, .refl _ _⟩
  have HCE := Hd.mk CE
  clear CE h h' hs hs'
  go_enter Tryz.func36, Tryz.ntmps36
  go_wp2_with fail
  refine HCE.out.mono ?_
  rintro e w2 ⟨rfl, hb⟩
  have HB := Hd.mk hb
  clear hb
  go_wp2_with fail
  go_ret
  exact ⟨rfl, HB.out⟩
end Go.Proofs.YtidjbiopneoeeaaGreat
