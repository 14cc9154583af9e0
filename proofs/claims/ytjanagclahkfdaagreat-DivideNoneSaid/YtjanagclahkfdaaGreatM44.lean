/- Parts of the proof, joined: what each says stands at its head. -/
import Derived.Test.YtjanagclahkfdaaGreatM43
set_option linter.unusedVariables false
set_option linter.unusedSimpArgs false
set_option maxHeartbeats 24000000
set_option maxRecDepth 100000
namespace Go.Proofs.YtjanagclahkfdaaGreat
open Go.RowKit
def Nils (w : World) (base : Nat) (V : Value) (n : Nat) : Prop := ∃ cs, w.ownsRow base 23 1 V n cs ∧ cs.length = n ∧ ∀ x ∈ cs, ∃ a c, x = Value.slice a 0 c
theorem Nils.up {w w' : World} {base n : Nat} {V : Value} (h : Nils w base V n) (hb : Below w.heap.size w w') : Nils w' base V n := let ⟨cs, h1, h2, h3⟩ := h; ⟨cs, own_below h1 hb, h2, h3⟩
theorem Nils.reads {w : World} {base n : Nat} {V : Value} (h : Nils w base V n) (b0 : Nat) : ∃ A c, V = .slice A n c ∧ n ≤ c ∧ RPols w b0 A (List.replicate n []) := by
 obtain ⟨cs, h1, h2, h3⟩ := h
 have hv : ∃ A c, V = .slice A n c ∧ n ≤ c := by
  rcases h1.2 with ⟨rfl, h0⟩ | ⟨g, cap, cur, rfl, _, _, h4, h5, _⟩
  ·exact ⟨none, 0, by rw [h0], by omega⟩
  ·exact ⟨_, cap, rfl, h4⟩
 obtain ⟨A, c, rfl, hc⟩ := hv
 refine ⟨A, c, rfl, hc, cs, by rw [List.length_replicate]; exact Rd.of_own h1, fun j p hj => ?_⟩
 have hp : p = [] := List.eq_of_mem_replicate (List.mem_of_getElem? hj)
 subst hp
 have hjn : j < cs.length := by
  have := (List.getElem?_eq_some_iff.1 hj).1
  rw [List.length_replicate] at this
  omega
 obtain ⟨a, d, e⟩ := h3 cs[j] (List.getElem_mem hjn)
 exact ⟨a, d, by rw [List.getElem?_eq_getElem hjn, e]; rfl, Nat.zero_le _, RPol.nil _ _ _⟩
theorem law_DivideNone (a0 k0 : Int) (A B : Option Addr) (c d : Nat) (ns : List Int) (ms : List (Int × Int × Int)) (w : World) (h0 : 0 ≤ a0) (h1 : a0 ≤ 255) (hk0 : 0 ≤ k0) (hk1 : k0 ≤ 255) (h : RSm w A c B d ns ms) :
    Calls Tryz.prog 7 #[.int .u8 a0, .agg #[.slice A ns.length c, .slice B ms.length d], .int .u8 k0] w fun e w' => e = .returned (.bool true) ∧ Below w.heap.size w w' := by
 have ho := oOk_mod3 h0
 obtain ⟨o, rO⟩ : ∃ o, a0 % 3 = o := ⟨_, rfl⟩
 obtain ⟨n, rN⟩ : ∃ n : Nat, k0 % 30 = n := ⟨(k0 % 30).toNat, by omega⟩
 have hn : n < 30 := by omega
 rw [rO] at ho
 obtain ⟨P, hP, CM⟩ := made12_call ho h
 have hsh := smP_short hP
 have CMade := Hd.mk CM
 have CS := Hd.mk law12_shown
 have SH := Hd.mk hsh
 have HN := Hd.mk (none_law hP.cp n)
 clear h CM hP hsh ho
 go_enter Tryz.func7, Tryz.ntmps7
 go_upto_region 1 with (fail)
 refine wp_gen (fun W => Bo1 w.heap.size w.heap.size w W 38 #[.slice A ns.length c, .slice B ms.length d]) (Bo1.mk1 w _ _) ?_
 intro W BX
 obtain ⟨q0, q1⟩ := BX.out.k1.two'
 go_wp2_with fail
 clear q0 q1
 refine (CMade.out _ BX.out.below).mono ?_
 rintro e w1 ⟨A1, c1, rfl, hc1, hr, hb⟩
 have HB1 := Hd.mk (BX.out.up hb).below
 have HR1 := Hd.mk hr
 clear hb hr BX CMade
 go_upto_region 4 with (fail)
 refine wp_gen (fun W => Below w1.heap.size w1 W ∧ Nils W w1.heap.size (.slice (some ⟨w1.heap.size, 0, none⟩) 0 0) 0) ⟨(Below.refl _ _).alloc (Nat.le_refl _) _, [], World.ownsRow_lit (e := 23) (size := 1) w1 #[] 0 (Nat.le_refl _) (by unfold maxLen; omega) rfl, rfl, fun x h => by cases h⟩ ?_
 intro W0 hW
 have HB0 := Hd.mk hW.out.1
 have HN0 := Hd.mk hW.out.2
 clear hW
 go_wp2_with fail
 go_loopw [9, 10] (fun v9 v10 wr => ∃ i : Nat, v10 = .int .i64 i ∧ i ≤ n ∧ Hd (Nils wr w1.heap.size v9 i) ∧ Hd (Below w1.heap.size w1 wr)) (fun _ v _ => n - (intOf v).toNat)
 case atStart => exact ⟨0, rfl, by omega, HN0, HB0⟩
 case round =>
  clear HN0 HB0
  obtain ⟨i, rfl, hi, HNi, HB⟩ := hrel
  obtain ⟨Av, cv, rfl, hcv, hrv⟩ := HNi.out.reads w.heap.size
  have HRV := Hd.mk hrv
  clear hrv
  by_cases hlt : i < n
  ·have i1 : (i : Int) < n := by omega
   obtain ⟨cs, hc1', hc2', hc3'⟩ := HNi.out.up ((Below.refl wr.heap.size wr).alloc (Nat.le_refl _) (.cells #[] 53))
   have BB1 := (Below.refl wr.heap.size wr).alloc (Nat.le_refl _) (.cells #[] 53)
   have BB := Hd.mk (BB1.alloc BB1.size (.cells #[.slice (some ⟨wr.heap.size, 0, none⟩) 0 0] 23))
   have HC1 := Hd.mk (own_below hc1' ((Below.refl (wr.alloc (.cells #[] 53)).heap.size _).alloc (Nat.le_refl _) (.cells #[.slice (some ⟨wr.heap.size, 0, none⟩) 0 0] 23)))
   have HC2 := Hd.mk (And.intro hc2' hc3')
   have RN := Hd.mk (Rd.new_ (wr.alloc (.cells #[] 53)) #[.slice (some ⟨wr.heap.size, 0, none⟩) 0 0] 23 1 1 rfl)
   rw [World.size_alloc] at RN
   have HO1 : Hd (∀ u ∈ [Value.slice (some ⟨wr.heap.size, 0, none⟩) 0 0], u.oneCell' = true) := ⟨fun u hu => by simp only [List.mem_singleton] at hu; subst hu; rfl⟩
   obtain ⟨i0, hi0, hz0, hz1, hz2⟩ := info_split Tryz.infPoly
   have HX1 : Hd (i + 1 ≤ maxLen ∧ (i + 1) * 24 ≤ 140737488355328) := ⟨by unfold maxLen; omega, by omega⟩
   have HSZ : Hd (w1.heap.size ≤ ((wr.alloc (.cells #[] 53)).alloc (.cells #[.slice (some ⟨wr.heap.size, 0, none⟩) 0 0] 23)).heap.size) := ⟨Nat.le_trans HB.out.size BB.out.size⟩
   clear hc1' hc2' hc3' BB1
   go_wp2_with (at_builtin; refine wpList_append_rd _ rfl _ _ 24 rfl w1.heap.size 23 i0 _ 1 24 Tryz.slPolys hi0 hz0 hz1 hz2 rfl (by decide) _ i cs rfl HC1.out _ _ 1 1 _ rfl RN.out HO1.out HX1.out.1 HX1.out.2 HSZ.out ?_)
   intro v9 w9 ho9 hg9 _
   have HN9 : Hd (Nils w9 w1.heap.size v9 (i + 1)) := ⟨_, ho9, by rw [List.length_append, HC2.out.1]; rfl, fun x hx => by
    rcases List.mem_append.1 hx with h | h
    ·exact HC2.out.2 x h
    ·simp only [List.mem_singleton] at h; exact ⟨_, _, h⟩⟩
   have HB9 := Hd.mk ((goes HB.out BB.out).grown hg9 HSZ.out (fun k hk => (own_bk HC1.out hk).2))
   clear ho9 hg9
   go_wp2_with fail
   go_roundw
   case measure => first | (simp [intOf]; done) | (simp [intOf]; omega)
   case rel => exact ⟨i + 1, by go_num, by omega, HN9, HB9⟩
  ·obtain rfl : i = n := by omega
   have hsl : shortPs (List.replicate i []) := ⟨by rw [List.length_replicate]; omega, fun p hp => by rw [List.eq_of_mem_replicate hp]; exact shortP_nil⟩
   have HR2 := Hd.mk (HR1.out.up HB.out)
   have HBB := Hd.mk (goes HB1.out HB.out)
   by_cases h24 : i ≤ 24
   ·have i2 : ¬ (24 : Int) < i := by omega
    have he : splitD o P (List.replicate i []) = (0, List.replicate i [], P) := by rw [HN.out, if_pos h24]
    have CR := Hd.mk (rest_call SH.out hsl he wr A1 Av c1 cv HBB.out.size HR2.out hc1 HRV.out (by rw [List.length_replicate]; exact hcv))
    rw [List.length_replicate] at CR
    clear hsl he h24 HN
    go_wp2_with fail
    refine CR.out.mono ?_
    rintro e w5 ⟨A5, c5, rfl, hc5, hr, hb⟩
    have HB5 := Hd.mk (goes HBB.out hb)
    have HR5 := Hd.mk hr
    have HP5 := Hd.mk (HR2.out.up hb)
    clear hr hb CR HR2 HBB
    go_wp2_with fail
    refine (CS.out _).mono ?_
    rintro e w6 ⟨rfl, hb⟩
    have HB6 := Hd.mk (goes HB5.out hb)
    have CC := Hd.mk (same_call' (HR5.out.up hb) hc5 SH.out (HP5.out.up hb) hc1)
    clear hb HB5 HR5 HP5
    go_wp2_with fail
    refine CC.out.mono ?_
    rintro e w7 ⟨rfl, hb⟩
    have HB7 := Hd.mk (goes HB6.out hb)
    clear hb
    go_wp2_with fail
    go_ret
    exact ⟨rfl, HB7.out⟩
   ·have i2 : (24 : Int) < i := by omega
    have he : splitD o P (List.replicate i []) = (1, [], []) := by rw [HN.out, if_neg h24]
    have CR := Hd.mk (rest_call SH.out hsl he wr A1 Av c1 cv HBB.out.size HR2.out hc1 HRV.out (by rw [List.length_replicate]; exact hcv))
    rw [List.length_replicate] at CR
    clear hsl he h24 HN
    go_wp2_with fail
    refine CR.out.mono ?_
    rintro e w5 ⟨A5, c5, rfl, hc5, hr, hb⟩
    have HB5 := Hd.mk (goes HBB.out hb)
    clear hr hb CR HR2 HBB
    go_wp2_with fail
    refine (CS.out _).mono ?_
    rintro e w6 ⟨rfl, hb⟩
    have HB6 := Hd.mk (goes HB5.out hb)
    clear hb HB5
    go_wp2_with fail
    refine (CS.out _).mono ?_
    rintro e w7 ⟨rfl, hb⟩
    have HB7 := Hd.mk (goes HB6.out hb)
    clear hb
    go_wp2_with fail
    go_ret
    exact ⟨rfl, HB7.out⟩
end Go.Proofs.YtjanagclahkfdaaGreat
