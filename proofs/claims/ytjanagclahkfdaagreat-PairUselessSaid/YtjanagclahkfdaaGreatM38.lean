/- Parts of the proof, joined: what each says stands at its head. -/
import Derived.Test.YtjanagclahkfdaaGreatM37
import Derived.Test.YtjanagclahkfdaaGreatM27
import Derived.Test.YtjanagclahkfdaaGreatM33
import Derived.Test.YtjanagclahkfdaaGreatM32
set_option linter.unusedVariables false
set_option linter.unusedSimpArgs false
set_option maxHeartbeats 24000000
set_option maxRecDepth 100000
namespace Go.Proofs.YtjanagclahkfdaaGreat
open Go.RowKit Go.PlainAid
theorem varD_le (c : Int) : varD c ≤ 3 := by
 unfold varD
 split
 ·omega
 ·split
  ·omega
  ·split
   ·omega
   ·split <;> omega
theorem numberS_le {s : ByteArray} {k : Nat} (h : s.size ≤ maxLen) : (numberS s k).size ≤ maxLen := by
 unfold numberS
 rw [ByteArray.size_extract]
 omega
theorem nil_le : (⟨#[]⟩ : ByteArray).size ≤ maxLen := by unfold maxLen; show 0 ≤ _; omega
theorem factorD_ok {s : ByteArray} (h : s.size ≤ maxLen) (k : Nat) (bad : Bool) : FacOk (factorD s k bad).1 := by
 unfold factorD
 dsimp only
 have h1 : oneS.size ≤ maxLen := by unfold maxLen; show 1 ≤ _; omega
 split
 ·split
  ·exact ⟨varD_le _, numberS_le h, nil_le⟩
  ·exact ⟨varD_le _, h1, nil_le⟩
 ·split
  ·exact ⟨by show (-1 : Int) ≤ 3; omega, numberS_le h, numberS_le h⟩
  ·exact ⟨by show (-1 : Int) ≤ 3; omega, numberS_le h, nil_le⟩
theorem facsF_ok {s : ByteArray} (h : s.size ≤ maxLen) : ∀ (n : Nat) (fs : List FacD) (k : Nat) (bad : Bool), (∀ f ∈ fs, FacOk f) → ∀ f ∈ (facsF s n fs k bad).1, FacOk f
 | 0, _, _, _, hf => hf
 | n + 1, fs, k, bad, hf => by
   unfold facsF
   split
   ·exact hf
   ·split
    ·refine facsF_ok h n _ _ _ fun f hm => ?_
     rcases List.mem_append.1 hm with hm | hm
     ·exact hf f hm
     ·simp only [List.mem_singleton] at hm
      subst hm
      exact factorD_ok h _ _
    ·exact hf
theorem productD_ok {s : ByteArray} (h : s.size ≤ maxLen) (k : Nat) (bad neg : Bool) : ∀ f ∈ (productD s k bad neg).1.fs, FacOk f := by
 unfold productD
 exact facsF_ok h _ _ _ _ fun f hm => by
  simp only [List.mem_singleton] at hm
  subst hm
  exact factorD_ok h _ _
theorem sumF_ok {s : ByteArray} (h : s.size ≤ maxLen) : ∀ (n : Nat) (l : List ProdD) (k : Nat) (bad : Bool), (∀ p ∈ l, ∀ f ∈ p.fs, FacOk f) → (∀ p ∈ (sumF s n l k bad).1, ∀ f ∈ p.fs, FacOk f) ∧ (sumF s n l k bad).1.length ≤ l.length + n
 | 0, _, _, _, hf => ⟨hf, Nat.le_refl _⟩
 | n + 1, l, k, bad, hf => by
   unfold sumF
   dsimp only
   have step : ∀ k neg, (∀ p ∈ l ++ [(productD s k bad neg).1], ∀ f ∈ p.fs, FacOk f) := fun k neg p hm => by
    rcases List.mem_append.1 hm with hm | hm
    ·exact hf p hm
    ·simp only [List.mem_singleton] at hm
     subst hm
     exact productD_ok h _ _ _
   split
   ·exact ⟨hf, by show l.length ≤ _; omega⟩
   ·split
    ·exact ⟨hf, by show l.length ≤ _; omega⟩
    ·split
     ·have := sumF_ok h n _ (productD s (eatK s (skipD s k) 43) bad false).2.1 (productD s (eatK s (skipD s k) 43) bad false).2.2 (step (eatK s (skipD s k) 43) false)
      exact ⟨this.1, by have := this.2; rw [List.length_append, List.length_singleton] at this; omega⟩
     ·split
      ·have := sumF_ok h n _ (productD s (eatK s (eatK s (skipD s k) 43) 45) bad true).2.1 (productD s (eatK s (eatK s (skipD s k) 43) 45) bad true).2.2 (step (eatK s (eatK s (skipD s k) 43) 45) true)
       exact ⟨this.1, by have := this.2; rw [List.length_append, List.length_singleton] at this; omega⟩
      ·exact ⟨hf, by show l.length ≤ _; omega⟩
theorem sumD_ok {s : ByteArray} (h : s.size ≤ maxLen) : (∀ p ∈ (sumD s).1, ∀ f ∈ p.fs, FacOk f) ∧ (sumD s).1.length ≤ s.size + 2 := by
 unfold sumD
 dsimp only
 have := sumF_ok h (s.size + 1) [(productD s (eatK s 0 45) false (eatB s 0 45)).1] (productD s (eatK s 0 45) false (eatB s 0 45)).2.1 (productD s (eatK s 0 45) false (eatB s 0 45)).2.2 (fun p hm => by
  simp only [List.mem_singleton] at hm
  subst hm
  exact productD_ok h _ _ _)
 exact ⟨this.1, by have := this.2; rw [List.length_singleton] at this; omega⟩
def termsD : List ProdD → Int × List TermD
 | [] => (0, [])
 | p :: ps => if (termD p).1 ≠ 0 then ((termD p).1, []) else if (termsD ps).1 ≠ 0 then ((termsD ps).1, []) else (0, (termD p).2 :: (termsD ps).2)
def parseD (o : Int) (s : ByteArray) : Int × List TermD :=
 if o < 0 ∨ 2 < o then (1, []) else if (sumD s).2 = true ∨ 2000 < s.size then (100, []) else
 if (termsD (sumD s).1).1 ≠ 0 then ((termsD (sumD s).1).1, []) else polMake o (termsD (sumD s).1).2
theorem termsD_cons (p : ProdD) (ps : List ProdD) : termsD (p :: ps) = if (termD p).1 ≠ 0 then ((termD p).1, []) else if (termsD ps).1 ≠ 0 then ((termsD ps).1, []) else (0, (termD p).2 :: (termsD ps).2) := rfl
theorem termsD_step {p : ProdD} {ps : List ProdD} {acc : List TermD} (h : (termD p).1 = 0) : appD acc (termsD (p :: ps)) = appD (acc ++ [(termD p).2]) (termsD ps) := by
 rw [termsD_cons, if_neg (by simpa using h)]
 by_cases h2 : (termsD ps).1 = 0
 ·rw [if_neg (by simpa using h2)]
  unfold appD
  rw [if_neg (by simp), if_neg (by simpa using h2)]
  simp
 ·rw [if_pos (by simpa using h2)]
  unfold appD
  rw [if_pos (by simpa using h2), if_pos (by simpa using h2)]
theorem termsD_start (ps : List ProdD) : termsD ps = appD [] (termsD ps) := by
 unfold appD
 cases ps with
 | nil => rfl
 | cons p ps =>
   rw [termsD_cons]
   by_cases h : (termD p).1 = 0
   ·rw [if_neg (by simpa using h)]
    by_cases h2 : (termsD ps).1 = 0
    ·rw [if_neg (by simpa using h2)]; rfl
    ·rw [if_pos (by simpa using h2), if_pos (by simpa using h2)]
   ·rw [if_pos (by simpa using h), if_pos (by simpa using h)]
theorem termsD_bad {p : ProdD} {ps : List ProdD} {acc : List TermD} (h : (termD p).1 ≠ 0) : appD acc (termsD (p :: ps)) = ((termD p).1, []) := by
 rw [termsD_cons, if_pos h]
 unfold appD
 rw [if_pos h]
theorem termF_short : ∀ {fs : List FacD} {t : TermD}, t.c.short → (termF fs t).2.c.short
 | [], _, h => h
 | f :: fs, t, h => by
   unfold termF
   split
   ·split
    ·exact h
    ·split
     ·exact h
     ·exact termF_short (mulD_short _ _)
   ·split
    ·exact h
    ·split
     ·exact h
     ·exact termF_short h
theorem termD_short (p : ProdD) : (termD p).2.c.short := by
 have h := termF_short (fs := p.fs) (t := ⟨ofD 1, zeroM⟩) (ofD_short 1 (by decide))
 unfold termD
 dsimp only
 split
 ·exact h
 ·split
  ·exact negD_short' h
  ·exact h
theorem ref_Parse (b0 : Nat) (o : Int) (s : ByteArray) (w : World) (hb0 : b0 ≤ w.heap.size) (hs : s.size ≤ 1000000) :
    Calls Tryz.prog 77 #[.int .i64 o, .string s] w fun e w' => ∃ A c, e = .returned (.tuple #[.slice A (parseD o s).2.length c, .int .i64 (parseD o s).1]) ∧ (parseD o s).2.length ≤ c ∧ RPol w' b0 A (parseD o s).2 ∧ Below w.heap.size w w' := by
 obtain ⟨E, hE⟩ : ∃ E, parseD o s = E := ⟨_, rfl⟩
 rw [hE]
 have HE := Hd.mk hE
 clear hE
 unfold parseD at HE
 have HB0 := Hd.mk hb0
 have hsm : s.size ≤ maxLen := by unfold maxLen; omega
 have HOK := Hd.mk (sumD_ok hsm)
 clear hb0
 by_cases ho : o < 0
 ·have HT : Hd (E = (1, [])) := ⟨by rw [← HE.out, if_pos (.inl ho)]⟩
  clear HE
  go_enter Tryz.func77, Tryz.ntmps77
  go_wp2_with fail
  go_ret2
  rw [HT.out]
  exact ⟨none, 0, rfl, Nat.le_refl _, RPol.nil _ _ _, .refl _ _⟩
 by_cases ho2 : 2 < o
 ·have HT : Hd (E = (1, [])) := ⟨by rw [← HE.out, if_pos (.inr ho2)]⟩
  clear HE
  go_enter Tryz.func77, Tryz.ntmps77
  go_wp2_with fail
  go_ret2
  rw [HT.out]
  exact ⟨none, 0, rfl, Nat.le_refl _, RPol.nil _ _ _, .refl _ _⟩
 have HE1 := Hd.mk (HE.out.symm.trans (if_neg (by omega)))
 have CS := Hd.mk (text_sum s w.heap.size (w.alloc (.cells #[.string s, .int .i64 0, .bool false] 131)) (Bk.new_ _ _ _) hs)
 obtain ⟨⟨ps, bad⟩, hS⟩ : ∃ X, sumD s = X := ⟨_, rfl⟩
 rw [hS] at CS HE1 HOK
 dsimp only [tx] at CS HE1 HOK
 clear hS HE
 go_enter Tryz.func77, Tryz.ntmps77
 go_wp2_with fail
 refine CS.out.mono ?_
 rintro e w3 ⟨v, K, rfl, hop, hk, hg⟩
 have HB3 := Hd.mk (((Below.refl w.heap.size w).alloc (Nat.le_refl _) (.cells #[.string s, .int .i64 0, .bool false] 131)).grown hg (by simp) (fun k e => by injection e with e; omega))
 have HOP := Hd.mk hop
 obtain ⟨q0, q1, q2⟩ := hk.three
 obtain ⟨VA, vc, rfl, hvc, hvm⟩ := hop.reads
 clear hop hk hg CS
 cases bad
 case true =>
  have HT : Hd (E = (100, [])) := ⟨by rw [HE1.out, if_pos (.inl rfl)]⟩
  clear HE1
  go_wp2_with fail
  go_ret2
  rw [HT.out]
  exact ⟨none, 0, rfl, Nat.le_refl _, RPol.nil _ _ _, HB3.out⟩
 by_cases h2 : 2000 < s.size
 ·have h3 : (2000 : Int) < s.size := by omega
  have HT : Hd (E = (100, [])) := ⟨by rw [HE1.out, if_pos (.inr h2)]⟩
  clear HE1 h2
  go_wp2_with fail
  go_ret2
  rw [HT.out]
  exact ⟨none, 0, rfl, Nat.le_refl _, RPol.nil _ _ _, HB3.out⟩
 have h3 : ¬ (2000 : Int) < s.size := by omega
 have HE2 := Hd.mk (HE1.out.trans (if_neg (by simp; omega)))
 have hpl : ps.length ≤ 2002 := by have := HOK.out.2; omega
 clear HE1 h2
 go_upto_region 8 with (fail)
 refine wp_gen (fun W => Below w3.heap.size w3 W ∧ OwnT W b0 w3.heap.size (.slice (some ⟨w3.heap.size, 0, none⟩) 0 0) []) ⟨(Below.refl _ _).alloc (Nat.le_refl _) _, ownT_lit w3 b0 w3.heap.size (Nat.le_refl _)⟩ ?_
 intro W0 hW
 have HB0W := Hd.mk hW.out.1
 have HO0 := Hd.mk hW.out.2
 clear hW q0 q1 q2
 go_wp2_with fail
 go_loopw [8, 9] (fun v8 v9 wr => ∃ (i : Nat) (acc : List TermD), v9 = .int .i64 i ∧ i ≤ ps.length ∧ acc.length = i ∧ Hd (OwnT wr b0 w3.heap.size v8 acc) ∧ Hd (Below w3.heap.size w3 wr) ∧ Hd (termsD ps = appD acc (termsD (ps.drop i))) ∧ Hd (∀ t ∈ acc, t.c.short)) (fun _ v _ => ps.length - (intOf v).toNat)
 case atStart => exact ⟨0, [], rfl, by omega, rfl, HO0, HB0W, ⟨termsD_start ps⟩, ⟨fun t h => by cases h⟩⟩
 case round =>
  clear HO0 HB0W
  obtain ⟨i, acc, rfl, hi, hl, HO, HB, HQ, HS⟩ := hrel
  obtain ⟨Av, cv, rfl, hcv, _, hrv⟩ := HO.out.reads
  have HRV := Hd.mk hrv
  have HL := Hd.mk hl
  clear hrv hl
  by_cases hlt : i < ps.length
  ·have i1 : (i : Int) < ps.length := by omega
   have i0 : (0 : Int) ≤ i := by omega
   obtain ⟨p, hpi⟩ : ∃ p, ps[i]? = some p := ⟨_, List.getElem?_eq_getElem hlt⟩
   have HFO := Hd.mk (HOK.out.1 p (List.mem_of_getElem? hpi))
   have hop := HOP.out.up HB.out
   obtain ⟨cs, hop1, hop2⟩ := hop
   obtain ⟨V, g0, g1, hof⟩ := hop2.get hpi
   obtain ⟨ad, eA, hab, hca⟩ := (Rd.of_own hop1).2 (by omega)
   subst eA
   have q0 := hca _ _ g0
   have q1 := hca _ _ g1
   rw [add_pos _ _ 1 (by omega)] at q1
   obtain ⟨FA, fc, rfl, hfc, hfm⟩ := hof.reads
   have HRF := Hd.mk (Rd.of_own hof)
   have HD : Hd (termsD ps = appD acc (termsD (p :: ps.drop (i + 1)))) := ⟨by
    have e1 : ps[i] = p := by rw [List.getElem?_eq_getElem hlt] at hpi; injection hpi
    rw [HQ.out, List.drop_eq_getElem_cons hlt, e1]⟩
   have CT := Hd.mk (ref_term b0 p FA fc wr (Nat.le_trans HB0.out (Nat.le_trans HB3.out.size HB.out.size)) HRF.out HFO.out (by omega))
   have HN := Hd.mk (fun h => HD.out.trans (termsD_step (ps := ps.drop (i + 1)) (acc := acc) (p := p) h))
   have HE3 := Hd.mk (fun h => HD.out.trans (termsD_bad (ps := ps.drop (i + 1)) (acc := acc) (p := p) h))
   have HTS := Hd.mk (termD_short p)
   obtain ⟨⟨et, t⟩, hT⟩ : ∃ X, termD p = X := ⟨_, rfl⟩
   rw [hT] at CT HN HE3 HTS
   dsimp only [TermD.v] at CT
   dsimp only at HN HE3 HTS
   clear hop1 hop2 hca g0 g1 hof hpi HD hT HQ
   go_wp2_with fail
   refine CT.out.mono ?_
   rintro e w5 ⟨XA, xc, XB, xd, rfl, hr, hb⟩
   have HB5 := Hd.mk (goes HB.out hb)
   have HO5 := Hd.mk (HO.out.up hb)
   have HR5 := Hd.mk hr
   clear hb hr CT q0 q1 HRF HFO
   go_upto_region 12 with (fail)
   refine wp_gen (fun W => Below w3.heap.size w3 W ∧ OwnT W b0 w3.heap.size (.slice Av acc.length cv) acc ∧ Bk W w5.heap.size 53 (t.v XA xc XB xd) ∧ RTerm W b0 (.agg (t.v XA xc XB xd)) t) ⟨goes HB5.out ((Below.refl _ _).alloc (Nat.le_refl _) _), HO5.out.up ((Below.refl _ _).alloc (Nat.le_refl _) _), Bk.new_ _ _ _, HR5.out.up ((Below.refl _ _).alloc (Nat.le_refl _) _)⟩ ?_
   intro W6 h6
   generalize w5.heap.size = g6 at h6 ⊢
   have HB6 := Hd.mk h6.out.1
   have HO6 := Hd.mk h6.out.2.1
   have HR6 := Hd.mk h6.out.2.2.2
   obtain ⟨⟨t0, t1, t2⟩, t3, t4, t5, t6⟩ := h6.out.2.2.1.seven
   clear h6 HB5 HO5 HR5
   by_cases hz : et = 0
   case neg =>
    have e1 : (et != 0) = true := by rw [bne_iff_ne]; exact hz
    have HT : Hd (E = (et, [])) := ⟨by rw [HE2.out, HE3.out hz, if_pos hz]⟩
    clear hz HE3 HN HE2
    go_wp2_with fail
    go_ret2
    rw [HT.out]
    exact ⟨none, 0, rfl, Nat.le_refl _, RPol.nil _ _ _, goes HB3.out HB6.out⟩
   have e1 : (et != 0) = false := by rw [hz]; rfl
   have HN2 := Hd.mk (HN.out hz)
   have HT1 := Hd.mk (rpol_one (t := t) HR6.out 53)
   have XL : Hd (acc.length + [t].length ≤ 1000000) := ⟨by have := HL.out; simp; omega⟩
   clear hz HE3 HN
   go_wp2_with (at_builtin; refine wpList_append_T (w0 := w3) (us := [t]) rfl _ _ 22 22 rfl Tryz.slTerms Tryz.slTerms rfl rfl rfl (HO6.out.up ((Below.refl _ _).alloc (Nat.le_refl _) _)) HT1.out (Nat.le_trans HB0.out HB3.out.size) XL.out (HB6.out.alloc HB6.out.size _) (Nat.le_refl _) (HB6.out.alloc HB6.out.size _).size ?_)
   intro v' w10 AP
   have HAP := Hd.mk AP
   have hl2 : (acc ++ [t]).length = i + 1 := by rw [List.length_append, HL.out]; rfl
   have HSS : Hd (∀ s ∈ acc ++ [t], s.c.short) := ⟨fun s hs => by
    rcases List.mem_append.1 hs with h | h
    ·exact HS.out s h
    ·simp only [List.mem_singleton] at h; subst h; exact HTS.out⟩
   clear AP
   go_wp2_with fail
   go_roundw
   case measure => first | (simp [intOf]; done) | (simp [intOf]; omega)
   case rel => exact ⟨i + 1, _, by go_num, by omega, hl2, ⟨HAP.out.own⟩, ⟨HAP.out.below⟩, HN2, HSS⟩
  ·obtain rfl : i = ps.length := by omega
   have HT : Hd (E = polMake o acc) := ⟨by
    rw [HE2.out, HQ.out, List.drop_eq_nil_of_le (Nat.le_refl _)]
    unfold termsD appD
    simp⟩
   have CM := Hd.mk (rpol_Make b0 o Av cv acc wr (Nat.le_trans HB0.out (Nat.le_trans HB3.out.size HB.out.size)) HRV.out hcv (by have := HL.out; omega) ⟨by have := HL.out; omega, HS.out⟩)
   rw [← HT.out] at CM
   go_wp2_with fail
   refine CM.out.mono ?_
   rintro e w6 ⟨A6, c6, rfl, hc6, hr6, hb6⟩
   have HB6 := Hd.mk (goes HB3.out (goes HB.out hb6))
   have HR6 := Hd.mk hr6
   clear hb6 hr6
   go_wp2_with fail
   go_ret2
   exact ⟨A6, c6, rfl, hc6, HR6.out, HB6.out⟩
def sA : ByteArray := ⟨#[120, 94, 50, 32, 43, 32, 121]⟩
def sB : ByteArray := ⟨#[120, 32, 45, 32, 121]⟩
def sC : ByteArray := ⟨#[121, 94, 50, 32, 43, 32, 121]⟩
def oneM (x y z : Int) : MonD := ⟨x, y, z, 0⟩
theorem parseA : parseD 0 sA = (0, [⟨ofD 1, oneM 2 0 0⟩, ⟨ofD 1, oneM 0 1 0⟩]) := by kernel_rfl
theorem parseB : parseD 0 sB = (0, [⟨ofD 1, oneM 1 0 0⟩, ⟨ofD (-1), oneM 0 1 0⟩]) := by kernel_rfl
theorem parseC : parseD 0 sC = (0, [⟨ofD 1, oneM 0 2 0⟩, ⟨ofD 1, oneM 0 1 0⟩]) := by kernel_rfl
theorem split12 : splitD 0 [⟨ofD 1, oneM 2 0 0⟩, ⟨ofD 1, oneM 0 1 0⟩] [[⟨ofD 1, oneM 1 0 0⟩, ⟨ofD (-1), oneM 0 1 0⟩]] = (0, [[⟨ofD 1, oneM 1 0 0⟩, ⟨ofD 1, oneM 0 1 0⟩]], [⟨ofD 1, oneM 0 2 0⟩, ⟨ofD 1, oneM 0 1 0⟩]) := by kernel_rfl
theorem short2 {a b : Int} {m m' : MonD} (ha : a.natAbs < 18446744073709551616) (hb : b.natAbs < 18446744073709551616) : shortP [⟨ofD a, m⟩, ⟨ofD b, m'⟩] := ⟨by simp, fun s hs => by
 simp only [List.mem_cons, List.not_mem_nil, or_false] at hs
 rcases hs with rfl | rfl
 ·exact ofD_short a ha
 ·exact ofD_short b hb⟩
theorem rpols_bk1 {W : World} {b0 g : Nat} {t : TypeId} {p : List TermD} {A : Option Addr} {c : Nat} (hk : Bk W g t #[.slice A p.length c]) (h : RPol W b0 A p) (hc : p.length ≤ c) : RPols W b0 (some ⟨g, 0, none⟩) [p] := by
 refine ⟨_, Rd.of_bk hk 1 1 rfl, fun j r hj => ?_⟩
 match j, hj with
 | 0, hj => injection hj with hj; subst hj; exact ⟨_, _, rfl, hc, h⟩
 | n + 1, hj => cases hj
theorem same_call' {b0 : Nat} {A B : Option Addr} {c d : Nat} {X : List TermD} {w : World} (h : RPol w b0 A X) (hc : X.length ≤ c) (hs : shortP X) (h' : RPol w b0 B X) (hd : X.length ≤ d) :
    Calls Tryz.prog 20 #[.slice A X.length c, .slice B X.length d] w fun e w' => e = .returned (.bool true) ∧ Below w.heap.size w w' := by
 have := rpol_Same b0 A B c d X X w h hc hs h' hd hs
 rwa [decide_eq_true rfl] at this
theorem law12_text (b0 : Nat) (s : ByteArray) (w : World) (hb0 : b0 ≤ w.heap.size) (hs : s.size ≤ 1000000) {X : List TermD} (hX : parseD 0 s = (0, X)) :
    Calls Tryz.prog 43 #[.string s] w fun e w' => ∃ A c, e = .returned (.slice A X.length c) ∧ X.length ≤ c ∧ RPol w' b0 A X ∧ Below w.heap.size w w' := by
 have CP := Hd.mk (ref_Parse b0 0 s w hb0 hs)
 rw [hX] at CP
 clear hX
 go_enter Tryz.func43, Tryz.ntmps43
 go_wp2_with fail
 refine CP.out.mono ?_
 rintro e w2 ⟨A, c, rfl, hc, hr, hb⟩
 have HR := Hd.mk hr
 have HB := Hd.mk hb
 clear hr hb
 go_wp2_with fail
 go_ret
 exact ⟨A, c, rfl, hc, HR.out, HB.out⟩
theorem law12_shown (w : World) : Calls Tryz.prog 15 #[] w fun e w' => e = .returned (.bool true) ∧ Below w.heap.size w w' := by
 have CA := Hd.mk (fun W (hB : Below w.heap.size w W) => law12_text w.heap.size sA W hB.size (by decide) parseA)
 have CB := Hd.mk (fun W (hB : Below w.heap.size w W) => law12_text w.heap.size sB W hB.size (by decide) parseB)
 have CC := Hd.mk (fun W (hB : Below w.heap.size w W) => law12_text w.heap.size sC W hB.size (by decide) parseC)
 have SA : Hd (shortP [⟨ofD 1, oneM 2 0 0⟩, ⟨ofD 1, oneM 0 1 0⟩]) := ⟨short2 (by decide) (by decide)⟩
 have SB : Hd (shortP [⟨ofD 1, oneM 1 0 0⟩, ⟨ofD (-1), oneM 0 1 0⟩]) := ⟨short2 (by decide) (by decide)⟩
 have SC : Hd (shortP [⟨ofD 1, oneM 0 2 0⟩, ⟨ofD 1, oneM 0 1 0⟩]) := ⟨short2 (by decide) (by decide)⟩
 have HD := Hd.mk split12
 obtain ⟨PA, hA⟩ : ∃ PA : List TermD, [⟨ofD 1, oneM 2 0 0⟩, ⟨ofD 1, oneM 0 1 0⟩] = PA := ⟨_, rfl⟩
 obtain ⟨PB, hB⟩ : ∃ PB : List TermD, [⟨ofD 1, oneM 1 0 0⟩, ⟨ofD (-1), oneM 0 1 0⟩] = PB := ⟨_, rfl⟩
 obtain ⟨PC, hC⟩ : ∃ PC : List TermD, [⟨ofD 1, oneM 0 2 0⟩, ⟨ofD 1, oneM 0 1 0⟩] = PC := ⟨_, rfl⟩
 obtain ⟨PQ, hQ⟩ : ∃ PQ : List (List TermD), [[⟨ofD 1, oneM 1 0 0⟩, ⟨ofD 1, oneM 0 1 0⟩]] = PQ := ⟨_, rfl⟩
 rw [hA] at CA SA HD
 rw [hB] at CB SB HD
 rw [hC] at CC SC HD
 rw [hQ] at HD
 clear hA hB hC hQ
 unfold sA at CA
 unfold sB at CB
 unfold sC at CC
 go_enter Tryz.func15, Tryz.ntmps15
 go_wp2_with fail
 refine (CA.out _ (.refl _ _)).mono ?_
 rintro e w1 ⟨A1, c1, rfl, hc1, hr, hb⟩
 have HR1 := Hd.mk hr
 have HB1 := Hd.mk hb
 clear hr hb CA
 go_wp2_with fail
 refine (CB.out _ HB1.out).mono ?_
 rintro e w2 ⟨A2, c2, rfl, hc2, hr, hb⟩
 have HR2 := Hd.mk (HR1.out.up hb)
 have HQ2 := Hd.mk hr
 have HB2 := Hd.mk (goes HB1.out hb)
 clear hr hb CB HR1 HB1
 have CR := Hd.mk (fun W (hB : Below w2.heap.size w2 W) (L : Option Addr) (hL : RPols W w.heap.size L [PB]) => div_Rest w.heap.size 0 A1 L c1 1 PA [PB] W (Nat.le_trans HB2.out.size hB.size) (HR2.out.up hB) hc1 SA.out hL (by simp) ⟨by simp, fun p hp => by simp only [List.mem_singleton] at hp; subst hp; exact SB.out⟩)
 rw [HD.out] at CR
 dsimp only [List.length_cons, List.length_nil] at CR
 go_wp2_with fail
 refine (CR.out _ ((Below.refl _ _).alloc (Nat.le_refl _) _) _ (rpols_bk1 (p := PB) (Bk.new_ _ _ _) (HQ2.out.up ((Below.refl _ _).alloc (Nat.le_refl _) _)) hc2)).mono ?_
 rintro e w3 ⟨A3, c3, rfl, hc3, hr, hb⟩
 have HR3 := Hd.mk hr
 have HB3 := Hd.mk (goes (goes HB2.out ((Below.refl _ _).alloc (Nat.le_refl _) _)) hb)
 clear hr hb CR HR2 HQ2 HB2
 go_wp2_with fail
 refine (CC.out _ HB3.out).mono ?_
 rintro e w4 ⟨A4, c4, rfl, hc4, hr, hb⟩
 have HR4 := Hd.mk (HR3.out.up hb)
 have HQ4 := Hd.mk hr
 have HB4 := Hd.mk (goes HB3.out hb)
 clear hr hb CC HR3 HB3
 have CS := Hd.mk (same_call' HR4.out hc3 SC.out HQ4.out hc4)
 go_wp2_with fail
 refine CS.out.mono ?_
 rintro e w5 ⟨rfl, hb⟩
 have HB5 := Hd.mk (goes HB4.out hb)
 clear hb CS
 go_wp2_with fail
 go_ret
 exact ⟨rfl, HB5.out⟩
end Go.Proofs.YtjanagclahkfdaaGreat
