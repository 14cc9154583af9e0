/- Parts of the proof, joined: what each says stands at its head. -/
import Derived.Test.YtjanagclahkfdaaGreatM37
import Derived.Test.YtjanagclahkfdaaGreatM27
set_option linter.unusedVariables false
set_option linter.unusedSimpArgs false
set_option maxHeartbeats 24000000
set_option maxRecDepth 100000
namespace Go.Proofs.YtjanagclahkfdaaGreat
open Go.RowKit Go.PlainAid
theorem varD_le (c : Int) : varD c ≤ 3 := by
 unfold varD
 split
 ·omega
 ·split
  ·omega
  ·split
   ·omega
   ·split <;> omega
theorem numberS_le {s : ByteArray} {k : Nat} (h : s.size ≤ maxLen) : (numberS s k).size ≤ maxLen := by
 unfold numberS
 rw [ByteArray.size_extract]
 omega
theorem nil_le : (⟨#[]⟩ : ByteArray).size ≤ maxLen := by unfold maxLen; show 0 ≤ _; omega
theorem factorD_ok {s : ByteArray} (h : s.size ≤ maxLen) (k : Nat) (bad : Bool) : FacOk (factorD s k bad).1 := by
 unfold factorD
 dsimp only
 have h1 : oneS.size ≤ maxLen := by unfold maxLen; show 1 ≤ _; omega
 split
 ·split
  ·exact ⟨varD_le _, numberS_le h, nil_le⟩
  ·exact ⟨varD_le _, h1, nil_le⟩
 ·split
  ·exact ⟨by show (-1 : Int) ≤ 3; omega, numberS_le h, numberS_le h⟩
  ·exact ⟨by show (-1 : Int) ≤ 3; omega, numberS_le h, nil_le⟩
theorem facsF_ok {s : ByteArray} (h : s.size ≤ maxLen) : ∀ (n : Nat) (fs : List FacD) (k : Nat) (bad : Bool), (∀ f ∈ fs, FacOk f) → ∀ f ∈ (facsF s n fs k bad).1, FacOk f
 | 0, _, _, _, hf => hf
 | n + 1, fs, k, bad, hf => by
   unfold facsF
   split
   ·exact hf
   ·split
    ·refine facsF_ok h n _ _ _ fun f hm => ?_
     rcases List.mem_append.1 hm with hm | hm
     ·exact hf f hm
     ·simp only [List.mem_singleton] at hm
      subst hm
      exact factorD_ok h _ _
    ·exact hf
theorem productD_ok {s : ByteArray} (h : s.size ≤ maxLen) (k : Nat) (bad neg : Bool) : ∀ f ∈ (productD s k bad neg).1.fs, FacOk f := by
 unfold productD
 exact facsF_ok h _ _ _ _ fun f hm => by
  simp only [List.mem_singleton] at hm
  subst hm
  exact factorD_ok h _ _
theorem sumF_ok {s : ByteArray} (h : s.size ≤ maxLen) : ∀ (n : Nat) (l : List ProdD) (k : Nat) (bad : Bool), (∀ p ∈ l, ∀ f ∈ p.fs, FacOk f) → (∀ p ∈ (sumF s n l k bad).1, ∀ f ∈ p.fs, FacOk f) ∧ (sumF s n l k bad).1.length ≤ l.length + n
 | 0, _, _, _, hf => ⟨hf, Nat.le_refl _⟩
 | n + 1, l, k, bad, hf => by
   unfold sumF
   dsimp only
   have step : ∀ k neg, (∀ p ∈ l ++ [(productD s k bad neg).1], ∀ f ∈ p.fs, FacOk f) := fun k neg p hm => by
    rcases List.mem_append.1 hm with hm | hm
    ·exact hf p hm
    ·simp only [List.mem_singleton] at hm
     subst hm
     exact productD_ok h _ _ _
   split
   ·exact ⟨hf, by show l.length ≤ _; omega⟩
   ·split
    ·exact ⟨hf, by show l.length ≤ _; omega⟩
    ·split
     ·have := sumF_ok h n _ (productD s (eatK s (skipD s k) 43) bad false).2.1 (productD s (eatK s (skipD s k) 43) bad false).2.2 (step (eatK s (skipD s k) 43) false)
      exact ⟨this.1, by have := this.2; rw [List.length_append, List.length_singleton] at this; omega⟩
     ·split
      ·have := sumF_ok h n _ (productD s (eatK s (eatK s (skipD s k) 43) 45) bad true).2.1 (productD s (eatK s (eatK s (skipD s k) 43) 45) bad true).2.2 (step (eatK s (eatK s (skipD s k) 43) 45) true)
       exact ⟨this.1, by have := this.2; rw [List.length_append, List.length_singleton] at this; omega⟩
      ·exact ⟨hf, by show l.length ≤ _; omega⟩
theorem sumD_ok {s : ByteArray} (h : s.size ≤ maxLen) : (∀ p ∈ (sumD s).1, ∀ f ∈ p.fs, FacOk f) ∧ (sumD s).1.length ≤ s.size + 2 := by
 unfold sumD
 dsimp only
 have := sumF_ok h (s.size + 1) [(productD s (eatK s 0 45) false (eatB s 0 45)).1] (productD s (eatK s 0 45) false (eatB s 0 45)).2.1 (productD s (eatK s 0 45) false (eatB s 0 45)).2.2 (fun p hm => by
  simp only [List.mem_singleton] at hm
  subst hm
  exact productD_ok h _ _ _)
 exact ⟨this.1, by have := this.2; rw [List.length_singleton] at this; omega⟩
def termsD : List ProdD → Int × List TermD
 | [] => (0, [])
 | p :: ps => if (termD p).1 ≠ 0 then ((termD p).1, []) else if (termsD ps).1 ≠ 0 then ((termsD ps).1, []) else (0, (termD p).2 :: (termsD ps).2)
def parseD (o : Int) (s : ByteArray) : Int × List TermD :=
 if o < 0 ∨ 2 < o then (1, []) else if (sumD s).2 = true ∨ 2000 < s.size then (100, []) else
 if (termsD (sumD s).1).1 ≠ 0 then ((termsD (sumD s).1).1, []) else polMake o (termsD (sumD s).1).2
theorem termsD_cons (p : ProdD) (ps : List ProdD) : termsD (p :: ps) = if (termD p).1 ≠ 0 then ((termD p).1, []) else if (termsD ps).1 ≠ 0 then ((termsD ps).1, []) else (0, (termD p).2 :: (termsD ps).2) := rfl
theorem termsD_step {p : ProdD} {ps : List ProdD} {acc : List TermD} (h : (termD p).1 = 0) : appD acc (termsD (p :: ps)) = appD (acc ++ [(termD p).2]) (termsD ps) := by
 rw [termsD_cons, if_neg (by simpa using h)]
 by_cases h2 : (termsD ps).1 = 0
 ·rw [if_neg (by simpa using h2)]
  unfold appD
  rw [if_neg (by simp), if_neg (by simpa using h2)]
  simp
 ·rw [if_pos (by simpa using h2)]
  unfold appD
  rw [if_pos (by simpa using h2), if_pos (by simpa using h2)]
theorem termsD_start (ps : List ProdD) : termsD ps = appD [] (termsD ps) := by
 unfold appD
 cases ps with
 | nil => rfl
 | cons p ps =>
   rw [termsD_cons]
   by_cases h : (termD p).1 = 0
   ·rw [if_neg (by simpa using h)]
    by_cases h2 : (termsD ps).1 = 0
    ·rw [if_neg (by simpa using h2)]; rfl
    ·rw [if_pos (by simpa using h2), if_pos (by simpa using h2)]
   ·rw [if_pos (by simpa using h), if_pos (by simpa using h)]
theorem termsD_bad {p : ProdD} {ps : List ProdD} {acc : List TermD} (h : (termD p).1 ≠ 0) : appD acc (termsD (p :: ps)) = ((termD p).1, []) := by
 rw [termsD_cons, if_pos h]
 unfold appD
 rw [if_pos h]
theorem termF_short : ∀ {fs : List FacD} {t : TermD}, t.c.short → (termF fs t).2.c.short
 | [], _, h => h
 | f :: fs, t, h => by
   unfold termF
   split
   ·split
    ·exact h
    ·split
     ·exact h
     ·exact termF_short (mulD_short _ _)
   ·split
    ·exact h
    ·split
     ·exact h
     ·exact termF_short h
theorem termD_short (p : ProdD) : (termD p).2.c.short := by
 have h := termF_short (fs := p.fs) (t := ⟨ofD 1, zeroM⟩) (ofD_short 1 (by decide))
 unfold termD
 dsimp only
 split
 ·exact h
 ·split
  ·exact negD_short' h
  ·exact h
theorem ref_Parse (b0 : Nat) (o : Int) (s : ByteArray) (w : World) (hb0 : b0 ≤ w.heap.size) (hs : s.size ≤ 1000000) :
    Calls Tryz.prog 77 #[.int .i64 o, .string s] w fun e w' => ∃ A c, e = .returned (.tuple #[.slice A (parseD o s).2.length c, .int .i64 (parseD o s).1]) ∧ (parseD o s).2.length ≤ c ∧ RPol w' b0 A (parseD o s).2 ∧ Below w.heap.size w w' := by
 obtain ⟨E, hE⟩ : ∃ E, parseD o s = E := ⟨_, rfl⟩
 rw [hE]
 have HE := Hd.mk hE
 clear hE
 unfold parseD at HE
 have HB0 := Hd.mk hb0
 have hsm : s.size ≤ maxLen := by unfold maxLen; omega
 have HOK := Hd.mk (sumD_ok hsm)
 clear hb0
 by_cases ho : o < 0
 ·have HT : Hd (E = (1, [])) := ⟨by rw [← HE.out, if_pos (.inl ho)]⟩
  clear HE
  go_enter Tryz.func77, Tryz.ntmps77
  go_wp2_with fail
  go_ret2
  rw [HT.out]
  exact ⟨none, 0, rfl, Nat.le_refl _, RPol.nil _ _ _, .refl _ _⟩
 by_cases ho2 : 2 < o
 ·have HT : Hd (E = (1, [])) := ⟨by rw [← HE.out, if_pos (.inr ho2)]⟩
  clear HE
  go_enter Tryz.func77, Tryz.ntmps77
  go_wp2_with fail
  go_ret2
  rw [HT.out]
  exact ⟨none, 0, rfl, Nat.le_refl _, RPol.nil _ _ _, .refl _ _⟩
 have HE1 := Hd.mk (HE.out.symm.trans (if_neg (by omega)))
 have CS := Hd.mk (text_sum s w.heap.size (w.alloc (.cells #[.string s, .int .i64 0, .bool false] 131)) (Bk.new_ _ _ _) hs)
 obtain ⟨⟨ps, bad⟩, hS⟩ : ∃ X, sumD s = X := ⟨_, rfl⟩
 rw [hS] at CS HE1 HOK
 dsimp only [tx] at CS HE1 HOK
 clear hS HE
 go_enter Tryz.func77, Tryz.ntmps77
 go_wp2_with fail
 refine CS.out.mono ?_
 rintro e w3 ⟨v, K, rfl, hop, hk, hg⟩
 have HB3 := Hd.mk (((Below.refl w.heap.size w).alloc (Nat.le_refl _) (.cells #[.string s, .int .i64 0, .bool false] 131)).grown hg (by simp) (fun k e => by injection e with e; omega))
 have HOP := Hd.mk hop
 obtain ⟨q0, q1, q2⟩ := hk.three
 obtain ⟨VA, vc, rfl, hvc, hvm⟩ := hop.reads
 clear hop hk hg CS
 cases bad
 case true =>
  have HT : Hd (E = (100, [])) := ⟨by rw [HE1.out, if_pos (.inl rfl)]⟩
  clear HE1
  go_wp2_with fail
  go_ret2
  rw [HT.out]
  exact ⟨none, 0, rfl, Nat.le_refl _, RPol.nil _ _ _, HB3.out⟩
 by_cases h2 : 2000 < s.size
 ·have h3 : (2000 : Int) < s.size := by omega
  have HT : Hd (E = (100, [])) := ⟨by rw [HE1.out, if_pos (.inr h2)]⟩
  clear HE1 h2
  go_wp2_with fail
  go_ret2
  rw [HT.out]
  exact ⟨none, 0, rfl, Nat.le_refl _, RPol.nil _ _ _, HB3.out⟩
 have h3 : ¬ (2000 : Int) < s.size := by omega
 have HE2 := Hd.mk (HE1.out.trans (if_neg (by simp; omega)))
 have hpl : ps.length ≤ 2002 := by have := HOK.out.2; omega
 clear HE1 h2
 go_upto_region 8 with (fail)
 refine wp_gen (fun W => Below w3.heap.size w3 W ∧ OwnT W b0 w3.heap.size (.slice (some ⟨w3.heap.size, 0, none⟩) 0 0) []) ⟨(Below.refl _ _).alloc (Nat.le_refl _) _, ownT_lit w3 b0 w3.heap.size (Nat.le_refl _)⟩ ?_
 intro W0 hW
 have HB0W := Hd.mk hW.out.1
 have HO0 := Hd.mk hW.out.2
 clear hW q0 q1 q2
 go_wp2_with fail
 go_loopw [8, 9] (fun v8 v9 wr => ∃ (i : Nat) (acc : List TermD), v9 = .int .i64 i ∧ i ≤ ps.length ∧ acc.length = i ∧ Hd (OwnT wr b0 w3.heap.size v8 acc) ∧ Hd (Below w3.heap.size w3 wr) ∧ Hd (termsD ps = appD acc (termsD (ps.drop i))) ∧ Hd (∀ t ∈ acc, t.c.short)) (fun _ v _ => ps.length - (intOf v).toNat)
 case atStart => exact ⟨0, [], rfl, by omega, rfl, HO0, HB0W, ⟨termsD_start ps⟩, ⟨fun t h => by cases h⟩⟩
 case round =>
  clear HO0 HB0W
  obtain ⟨i, acc, rfl, hi, hl, HO, HB, HQ, HS⟩ := hrel
  obtain ⟨Av, cv, rfl, hcv, _, hrv⟩ := HO.out.reads
  have HRV := Hd.mk hrv
  have HL := Hd.mk hl
  clear hrv hl
  by_cases hlt : i < ps.length
  ·have i1 : (i : Int) < ps.length := by omega
   have i0 : (0 : Int) ≤ i := by omega
   obtain ⟨p, hpi⟩ : ∃ p, ps[i]? = some p := ⟨_, List.getElem?_eq_getElem hlt⟩
   have HFO := Hd.mk (HOK.out.1 p (List.mem_of_getElem? hpi))
   have hop := HOP.out.up HB.out
   obtain ⟨cs, hop1, hop2⟩ := hop
   obtain ⟨V, g0, g1, hof⟩ := hop2.get hpi
   obtain ⟨ad, eA, hab, hca⟩ := (Rd.of_own hop1).2 (by omega)
   subst eA
   have q0 := hca _ _ g0
   have q1 := hca _ _ g1
   rw [add_pos _ _ 1 (by omega)] at q1
   obtain ⟨FA, fc, rfl, hfc, hfm⟩ := hof.reads
   have HRF := Hd.mk (Rd.of_own hof)
   have HD : Hd (termsD ps = appD acc (termsD (p :: ps.drop (i + 1)))) := ⟨by
    have e1 : ps[i] = p := by rw [List.getElem?_eq_getElem hlt] at hpi; injection hpi
    rw [HQ.out, List.drop_eq_getElem_cons hlt, e1]⟩
   have CT := Hd.mk (ref_term b0 p FA fc wr (Nat.le_trans HB0.out (Nat.le_trans HB3.out.size HB.out.size)) HRF.out HFO.out (by omega))
   have HN := Hd.mk (fun h => HD.out.trans (termsD_step (ps := ps.drop (i + 1)) (acc := acc) (p := p) h))
   have HE3 := Hd.mk (fun h => HD.out.trans (termsD_bad (ps := ps.drop (i + 1)) (acc := acc) (p := p) h))
   have HTS := Hd.mk (termD_short p)
   obtain ⟨⟨et, t⟩, hT⟩ : ∃ X, termD p = X := ⟨_, rfl⟩
   rw [hT] at CT HN HE3 HTS
   dsimp only [TermD.v] at CT
   dsimp only at HN HE3 HTS
   clear hop1 hop2 hca g0 g1 hof hpi HD hT HQ
   go_wp2_with fail
   refine CT.out.mono ?_
   rintro e w5 ⟨XA, xc, XB, xd, rfl, hr, hb⟩
   have HB5 := Hd.mk (goes HB.out hb)
   have HO5 := Hd.mk (HO.out.up hb)
   have HR5 := Hd.mk hr
   clear hb hr CT q0 q1 HRF HFO
   go_upto_region 12 with (fail)
   refine wp_gen (fun W => Below w3.heap.size w3 W ∧ OwnT W b0 w3.heap.size (.slice Av acc.length cv) acc ∧ Bk W w5.heap.size 53 (t.v XA xc XB xd) ∧ RTerm W b0 (.agg (t.v XA xc XB xd)) t) ⟨goes HB5.out ((Below.refl _ _).alloc (Nat.le_refl _) _), HO5.out.up ((Below.refl _ _).alloc (Nat.le_refl _) _), Bk.new_ _ _ _, HR5.out.up ((Below.refl _ _).alloc (Nat.le_refl _) _)⟩ ?_
   intro W6 h6
   generalize w5.heap.size = g6 at h6 ⊢
   have HB6 := Hd.mk h6.out.1
   have HO6 := Hd.mk h6.out.2.1
   have HR6 := Hd.mk h6.out.2.2.2
   obtain ⟨⟨t0, t1, t2⟩, t3, t4, t5, t6⟩ := h6.out.2.2.1.seven
   clear h6 HB5 HO5 HR5
   by_cases hz : et = 0
   case neg =>
    have e1 : (et != 0) = true := by rw [bne_iff_ne]; exact hz
    have HT : Hd (E = (et, [])) := ⟨by rw [HE2.out, HE3.out hz, if_pos hz]⟩
    clear hz HE3 HN HE2
    go_wp2_with fail
    go_ret2
    rw [HT.out]
    exact ⟨none, 0, rfl, Nat.le_refl _, RPol.nil _ _ _, goes HB3.out HB6.out⟩
   have e1 : (et != 0) = false := by rw [hz]; rfl
   have HN2 := Hd.mk (HN.out hz)
   have HT1 := Hd.mk (rpol_one (t := t) HR6.out 53)
   have XL : Hd (acc.length + [t].length ≤ 1000000) := ⟨by have := HL.out; simp; omega⟩
   clear hz HE3 HN
   go_wp2_with (at_builtin; refine wpList_append_T (w0 := w3) (us := [t]) rfl _ _ 22 22 rfl Tryz.slTerms Tryz.slTerms rfl rfl rfl (HO6.out.up ((Below.refl _ _).alloc (Nat.le_refl _) _)) HT1.out (Nat.le_trans HB0.out HB3.out.size) XL.out (HB6.out.alloc HB6.out.size _) (Nat.le_refl _) (HB6.out.alloc HB6.out.size _).size ?_)
   intro v' w10 AP
   have HAP := Hd.mk AP
   have hl2 : (acc ++ [t]).length = i + 1 := by rw [List.length_append, HL.out]; rfl
   have HSS : Hd (∀ s ∈ acc ++ [t], s.c.short) := ⟨fun s hs => by
    rcases List.mem_append.1 hs with h | h
    ·exact HS.out s h
    ·simp only [List.mem_singleton] at h; subst h; exact HTS.out⟩
   clear AP
   go_wp2_with fail
   go_roundw
   case measure => first | (simp [intOf]; done) | (simp [intOf]; omega)
   case rel => exact ⟨i + 1, _, by go_num, by omega, hl2, ⟨HAP.out.own⟩, ⟨HAP.out.below⟩, HN2, HSS⟩
  ·obtain rfl : i = ps.length := by omega
   have HT : Hd (E = polMake o acc) := ⟨by
    rw [HE2.out, HQ.out, List.drop_eq_nil_of_le (Nat.le_refl _)]
    unfold termsD appD
    simp⟩
   have CM := Hd.mk (rpol_Make b0 o Av cv acc wr (Nat.le_trans HB0.out (Nat.le_trans HB3.out.size HB.out.size)) HRV.out hcv (by have := HL.out; omega) ⟨by have := HL.out; omega, HS.out⟩)
   rw [← HT.out] at CM
   go_wp2_with fail
   refine CM.out.mono ?_
   rintro e w6 ⟨A6, c6, rfl, hc6, hr6, hb6⟩
   have HB6 := Hd.mk (goes HB3.out (goes HB.out hb6))
   have HR6 := Hd.mk hr6
   clear hb6 hr6
   go_wp2_with fail
   go_ret2
   exact ⟨A6, c6, rfl, hc6, HR6.out, HB6.out⟩
end Go.Proofs.YtjanagclahkfdaaGreat
