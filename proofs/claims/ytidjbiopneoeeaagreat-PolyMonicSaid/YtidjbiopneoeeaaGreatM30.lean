/- Parts of the proof, joined: what each says stands at its head. -/
import Derived.Test.YtidjbiopneoeeaaGreatM29
set_option linter.unusedVariables false
set_option linter.unusedSimpArgs false
/- The walk of the law PolyMakes. No condition. -/
namespace Go.Proofs.YtidjbiopneoeeaaGreat
open Go.RowKit

theorem putAll_short {o : Int} : ∀ {ts al : List TermD}, (∀ s ∈ al, s.c.short) → (∀ s ∈ ts, s.c.short) → ∀ s ∈ (putAll o al ts).2, s.c.short
  | [], al, h, _ => h
  | t :: ts, al, h, ht => by
    unfold putAll
    split
    · intro s hs; cases hs
    · exact putAll_short (putD_short h (ht t (by simp))).1 (fun s hs => ht s (by simp [hs]))
theorem polMake_short {o : Int} {ts : List TermD} (h : ∀ s ∈ ts, s.c.short) : shortP (polMake o ts).2 ∧ (polMake o ts).2.length ≤ 60 := by
  unfold polMake
  split
  · exact ⟨⟨by simp, fun s hs => by cases hs⟩, by simp⟩
  · split
    · exact ⟨⟨by simp, fun s hs => by cases hs⟩, by simp⟩
    · split
      · exact ⟨⟨by simp, fun s hs => by cases hs⟩, by simp⟩
      · rename_i h60
        have hl : ((putAll o [] ts).2.filter nz).length ≤ 60 := Nat.le_of_not_lt h60
        exact ⟨⟨Nat.le_trans hl (by decide), fun s hs => putAll_short (fun _ h => by cases h) h s (List.mem_filter.1 hs).1⟩, hl⟩

set_option maxHeartbeats 4000000 in
set_option maxRecDepth 100000 in
theorem law_PolyMakes (order : Int) (A B : Option Addr) (c d : Nat) (ts ps : List TermD) (w : World) (h : RPol w w.heap.size A ts) (hc : ts.length ≤ c) (hm : c ≤ maxLen) (h' : RPol w w.heap.size B ps) (hc' : ps.length ≤ d) (hm' : d ≤ maxLen) :
    Calls Tryz.prog 8 #[.int .i64 order, .slice A ts.length c, .slice B ps.length d] w fun e w' => e = .returned (.bool true) ∧ Below w.heap.size w w' := by
  have CH1 := Hd.mk (law_heavy w.heap.size A c ts w h hc (Nat.le_trans hc hm))
  have CH2 := Hd.mk (fun W (hB : Below w.heap.size w W) => law_heavy w.heap.size B d ps W (h'.up hB) hc' (Nat.le_trans hc' hm'))
  have HP := Hd.mk h
  have HP' := Hd.mk h'
  have CS := Hd.mk law_shown
  clear h h' hm hm'
  cases hv1 : heavyD ts
  · rw [hv1] at CH1
    cases hv2 : heavyD ps
    · rw [hv2] at CH2
      obtain ⟨s1, l1⟩ := heavy_short hv1
      obtain ⟨s2, l2⟩ := heavy_short hv2
      obtain ⟨s3, l3⟩ := polMake_short (o := order) s1.2
      have HS1 := Hd.mk s1
      have HS2 := Hd.mk s2
      have CM1 := Hd.mk (fun W (hB : Below w.heap.size w W) => poly_Make w.heap.size order A c ts W hB.size (HP.out.up hB) hc s1)
      have CM2 := Hd.mk (fun W (hB : Below w.heap.size w W) => rpol_Make w.heap.size order A c ts W hB.size (HP.out.up hB) hc (by omega) s1)
      obtain ⟨X1, X2, hX⟩ : ∃ X1 X2, polMake order ts = (X1, X2) := ⟨_, _, rfl⟩
      rw [hX] at CM1 CM2 s3 l3
      have HS3 : Hd (shortP X2) := ⟨s3⟩
      clear hv1 hv2 s1 s2 s3 hX
      go_enter Tryz.func8, Tryz.ntmps8
      go_wp2_with fail
      refine CH1.out.mono ?_
      rintro e w2 ⟨rfl, hb⟩
      have HB2 := Hd.mk hb
      clear hb
      go_wp2_with fail
      refine (CH2.out _ HB2.out).mono ?_
      rintro e w3 ⟨rfl, hb⟩
      have HB3 := Hd.mk (goes HB2.out hb)
      clear hb
      go_wp2_with fail
      refine (CS.out _).mono ?_
      rintro e w4 ⟨rfl, hb⟩
      have HB4 := Hd.mk (goes HB3.out hb)
      clear hb
      go_wp2_with fail
      refine (CM1.out _ HB4.out).mono ?_
      rintro e w5 ⟨A1, c1, rfl, hc1, hr1, hb⟩
      have HB5 := Hd.mk (goes HB4.out hb)
      have HX5 := Hd.mk hr1
      clear hb hr1
      go_wp2_with fail
      refine (CM2.out _ HB5.out).mono ?_
      rintro e w6 ⟨A2, c2, rfl, hc2, hr2, hb⟩
      have HB6 := Hd.mk (goes HB5.out hb)
      have HX6 := Hd.mk (HX5.out.up hb)
      have HY6 := Hd.mk hr2
      clear hb hr2
      have CSame := Hd.mk (rpol_Same w.heap.size A1 A2 c1 c2 X2 X2 w6 HX6.out hc1 HS3.out HY6.out hc2 HS3.out)
      rw [decide_eq_true rfl] at CSame
      have PM := Hd.mk (fun W (hB : Below w.heap.size w W) => poly_May w.heap.size order B d ps W (HP'.out.up hB) hc' HS2.out)
      have RM := Hd.mk (fun W (hB : Below w.heap.size w W) => rpol_May w.heap.size order B d ps W (HP'.out.up hB) hc' HS2.out)
      have PX := Hd.mk (fun W (hB : Below w6.heap.size w6 W) => poly_May w.heap.size order A1 c1 X2 W (HX6.out.up hB) hc1 HS3.out)
      have RX := Hd.mk (fun W (hB : Below w6.heap.size w6 W) => rpol_May w.heap.size order A1 c1 X2 W (HX6.out.up hB) hc1 HS3.out)
      have PS := Hd.mk (fun W (hB : Below w.heap.size w W) (hB6 : Below w6.heap.size w6 W) => poly_Same w.heap.size B A1 d c1 ps X2 W (HP'.out.up hB) hc' HS2.out (HX6.out.up hB6) hc1 HS3.out)
      have RS := Hd.mk (fun W (hB : Below w.heap.size w W) (hB6 : Below w6.heap.size w6 W) => rpol_Same w.heap.size B A1 d c1 ps X2 W (HP'.out.up hB) hc' HS2.out (HX6.out.up hB6) hc1 HS3.out)
      generalize polMay order ps = mb at PM RM
      generalize polMay order X2 = nb at PX RX
      generalize decide (ps = X2) = sb at PS RS
      clear CM1 CM2 CH1 CH2 CS
      go_wp2_with fail
      refine CSame.out.mono ?_
      rintro e w7 ⟨rfl, hb⟩
      have HB7 := Hd.mk (goes HB6.out hb)
      have HC7 := Hd.mk hb
      clear hb
      go_wp2_with fail
      refine (PM.out _ HB7.out).mono ?_
      rintro e w8 ⟨rfl, hb⟩
      have HB8 := Hd.mk (goes HB7.out hb)
      have HC8 := Hd.mk (goes HC7.out hb)
      clear hb
      go_wp2_with fail
      refine (RM.out _ HB8.out).mono ?_
      rintro e w9 ⟨rfl, hb⟩
      have HB9 := Hd.mk (goes HB8.out hb)
      have HC9 := Hd.mk (goes HC8.out hb)
      clear hb
      go_wp2_with fail
      refine (PX.out _ HC9.out).mono ?_
      rintro e w10 ⟨rfl, hb⟩
      have HB10 := Hd.mk (goes HB9.out hb)
      have HC10 := Hd.mk (goes HC9.out hb)
      clear hb
      go_wp2_with fail
      refine (RX.out _ HC10.out).mono ?_
      rintro e w11 ⟨rfl, hb⟩
      have HB11 := Hd.mk (goes HB10.out hb)
      have HC11 := Hd.mk (goes HC10.out hb)
      clear hb
      go_wp2_with fail
      refine (PS.out _ HB11.out HC11.out).mono ?_
      rintro e w12 ⟨rfl, hb⟩
      have HB12 := Hd.mk (goes HB11.out hb)
      have HC12 := Hd.mk (goes HC11.out hb)
      clear hb
      go_wp2_with fail
      refine (RS.out _ HB12.out HC12.out).mono ?_
      rintro e w13 ⟨rfl, hb⟩
      have HB13 := Hd.mk (goes HB12.out hb)
      clear hb
      go_wp2_with fail
      go_ret
      exact ⟨by simp, HB13.out⟩
    · rw [hv2] at CH2
      clear hv1 hv2
      go_enter Tryz.func8, Tryz.ntmps8
      go_wp2_with fail
      refine CH1.out.mono ?_
      rintro e w2 ⟨rfl, hb⟩
      have HB2 := Hd.mk hb
      clear hb
      go_wp2_with fail
      refine (CH2.out _ HB2.out).mono ?_
      rintro e w3 ⟨rfl, hb⟩
      have HB3 := Hd.mk (goes HB2.out hb)
      clear hb
      go_wp2_with fail
      refine (CS.out _).mono ?_
      rintro e w4 ⟨rfl, hb⟩
      have HB4 := Hd.mk (goes HB3.out hb)
      clear hb
      go_wp2_with fail
      go_ret
      exact ⟨rfl, HB4.out⟩
  · rw [hv1] at CH1
    clear hv1
    go_enter Tryz.func8, Tryz.ntmps8
    go_wp2_with fail
    refine CH1.out.mono ?_
    rintro e w2 ⟨rfl, hb⟩
    have HB2 := Hd.mk hb
    clear hb
    go_wp2_with fail
    refine (CS.out _).mono ?_
    rintro e w4 ⟨rfl, hb⟩
    have HB4 := Hd.mk (goes HB2.out hb)
    clear hb
    go_wp2_with fail
    go_ret
    exact ⟨rfl, HB4.out⟩
end Go.Proofs.YtidjbiopneoeeaaGreat
