/- Parts of the proof, joined: what each says stands at its head. -/
import Derived.Test.YtidjbiopneoeeaaGreatM31
import Derived.Test.YtidjbiopneoeeaaGreatM30
set_option linter.unusedVariables false
set_option linter.unusedSimpArgs false
/- The walks of the ninth reference's Monic and Minus. The condition: short rows. -/
namespace Go.Proofs.YtidjbiopneoeeaaGreat
open Go.RowKit

theorem polMay_at {o : Int} {p : List TermD} (h : polMay o p = true) {i : Nat} {t : TermD} (hi : p[i]? = some t) : right t = true ∧ t.c.num.length ≠ 0 := by
  unfold polMay at h
  rw [Bool.and_eq_true, List.all_eq_true] at h
  have hlt : i < p.length := by
    rcases Nat.lt_or_ge i p.length with h1 | h1
    · exact h1
    · rw [List.getElem?_eq_none h1] at hi; cases hi
  have h2 := h.1 i (List.mem_range.2 hlt)
  rw [okAt_of hi] at h2
  simp only [Bool.and_eq_true, Bool.not_eq_true', decide_eq_false_iff_not] at h2
  exact ⟨by unfold right; rw [h2.1.1.1, h2.1.1.2]; rfl, h2.1.2⟩
theorem polMay_inv {o : Int} {t : TermD} {r : List TermD} (h : polMay o (t :: r) = true) : (invD t.c).1 = 0 := by
  obtain ⟨h1, h2⟩ := polMay_at h (i := 0) rfl
  unfold right at h1
  rw [Bool.and_eq_true] at h1
  unfold invD
  rw [h1.1, if_neg (by simp), if_neg h2]

set_option maxHeartbeats 4000000 in
set_option maxRecDepth 100000 in
theorem rpol_Monic (b0 : Nat) (order : Int) (A : Option Addr) (c : Nat) (ps : List TermD) (w : World) (hb0 : b0 ≤ w.heap.size) (h : RPol w b0 A ps) (hc : ps.length ≤ c) (hs : shortP ps) :
    Calls Tryz.prog 48 #[.int .i64 order, .slice A ps.length c] w fun e w' => ∃ A' c', e = .returned (.tuple #[.slice A' (polMonic order ps).2.length c', .int .i64 (polMonic order ps).1]) ∧
      (polMonic order ps).2.length ≤ c' ∧ RPol w' b0 A' (polMonic order ps).2 ∧ Below w.heap.size w w' := by
  have HP := Hd.mk h
  have HS := Hd.mk hs
  have HB0 := Hd.mk hb0
  have hl := hs.1
  clear h hs hb0
  have CM := Hd.mk (rpol_May b0 order A c ps w HP.out hc HS.out)
  cases hm : polMay order ps
  · rw [hm] at CM
    have HE : Hd (polMonic order ps = (1, [])) := ⟨by unfold polMonic; rw [hm]; rfl⟩
    clear hm
    go_enter Tryz.func48, Tryz.ntmps48
    go_wp2_with fail
    refine CM.out.mono ?_
    rintro e w2 ⟨rfl, hb2⟩
    have HB2 := Hd.mk hb2
    clear hb2
    go_wp2_with fail
    go_ret2
    rw [HE.out]
    exact ⟨none, 0, rfl, Nat.le_refl _, RPol.nil _ _ _, HB2.out⟩
  rw [hm] at CM
  cases ps with
  | nil =>
    have HE : Hd (polMonic order [] = (0, [])) := ⟨by unfold polMonic; rw [hm]; rfl⟩
    clear hm
    go_enter Tryz.func48, Tryz.ntmps48
    go_wp2_with fail
    refine CM.out.mono ?_
    rintro e w2 ⟨rfl, hb2⟩
    have HB2 := Hd.mk hb2
    clear hb2
    go_wp2_with fail
    go_ret2
    rw [HE.out]
    exact ⟨A, c, rfl, Nat.zero_le _, RPol.nil _ _ _, HB2.out⟩
  | cons t r =>
    have hinv := polMay_inv hm
    obtain ⟨I, hI⟩ : ∃ I, invD t.c = I := ⟨_, rfl⟩
    have HE : Hd (polMonic order (t :: r) = polTimes order (t :: r) ⟨I.2, zeroM⟩) := ⟨by unfold polMonic; rw [hm]; simp only [hI]; rw [if_neg (by simp), if_neg (by rw [← hI]; simpa using hinv)]⟩
    have hts := HS.out.2 t (by simp)
    have HI := Hd.mk (show I.2.short by rw [← hI]; exact invD_short hts)
    have CI := Hd.mk (fun v W hW hv => rrat_Inv b0 v t.c W hW hv hts)
    rw [hI] at CI
    obtain ⟨I1, I2⟩ := I
    dsimp only at HE HI CI
    clear hm hI hts hinv
    obtain ⟨N, hN⟩ : ∃ N, N = t :: r := ⟨_, rfl⟩
    have H0 : Hd (N[0]? = some t) := ⟨by rw [hN]; rfl⟩
    have hN0 : 0 < N.length := by rw [hN]; simp
    rw [← hN] at HP HS CM HE hc hl ⊢
    clear hN
    have z1 : ((N.length : Int) == 0) = false := by rw [beq_eq_false_iff_ne]; omega
    have z2 : (0 : Int) < N.length := by omega
    go_enter Tryz.func48, Tryz.ntmps48
    go_wp2_with fail
    refine CM.out.mono ?_
    rintro e w2 ⟨rfl, hb2⟩
    have HB2 := Hd.mk hb2
    obtain ⟨ad, B1, c1, B2, c2, t', rfl, hab, hti, hrt, q0, q1, q2, q3, q4, q5, q6⟩ := (HP.out.up hb2).get hN0
    have ht' : t' = t := by have := hti.out; rw [H0.out] at this; injection this with this; exact this.symm
    subst ht'
    have CI2 := Hd.mk (CI.out _ w2 (Nat.le_trans HB0.out hb2.size) hrt.out.rat)
    have ea : ad.add (0 * 7) = ad := by unfold Addr.add; simp
    rw [ea] at q0 q1 q2
    clear ea hb2 CM CI hrt H0 hti q3 q4 q5 q6
    go_wp2_with fail
    refine CI2.out.mono ?_
    rintro e w3 ⟨x, rfl, hx, hb3⟩
    have HB3 := Hd.mk (goes HB2.out hb3)
    have HX := Hd.mk hx
    obtain ⟨XA, xc, XB, xd, rfl, _, _, _, _⟩ := hx
    clear hb3 CI2
    go_upto_region 6 with (fail)
    refine wp_gen (fun W => Below w3.heap.size w3 W ∧ Bk W w3.heap.size 63 #[.bool I2.neg, .slice XA I2.num.length xc, .slice XB I2.den.length xd]) ⟨(Below.refl _ _).alloc (Nat.le_refl _) _, Bk.new_ _ _ _⟩ ?_
    intro W4 h4
    have HB4 := Hd.mk (goes HB3.out h4.out.1)
    have HX4 := Hd.mk (HX.out.up h4.out.1)
    obtain ⟨r0, r1, r2⟩ := h4.out.2.three
    clear h4
    generalize w3.heap.size = g6 at r0 r1 r2 ⊢
    have CT := Hd.mk (rpol_Times b0 order (some ad) c N _ ⟨I2, zeroM⟩ W4 (Nat.le_trans HB0.out HB4.out.size) (HP.out.up HB4.out) hc HS.out (rterm_of HX4.out zeroM) HI.out)
    rw [← HE.out] at CT
    simp only [zeroM] at CT
    clear HE
    go_wp2_with fail
    refine CT.out.mono ?_
    rintro e w8 ⟨A8, c8, rfl, hc8, hr8, hb8⟩
    have HB8 := Hd.mk (goes HB4.out hb8)
    have HR8 := Hd.mk hr8
    clear hb8 hr8
    go_wp2_with fail
    go_ret2
    exact ⟨A8, c8, rfl, hc8, HR8.out, HB8.out⟩

def polMinus (p : List TermD) : List TermD := p.map fun t => ⟨negD t.c, t.m⟩
set_option maxHeartbeats 4000000 in
set_option maxRecDepth 100000 in
theorem rpol_Minus (b0 : Nat) (A : Option Addr) (c : Nat) (ps : List TermD) (w : World) (hb0 : b0 ≤ w.heap.size) (h : RPol w b0 A ps) (hc : ps.length ≤ c) (h9 : ps.length ≤ 100000) :
    Calls Tryz.prog 40 #[.slice A ps.length c] w fun e w' => ∃ A' c', e = .returned (.slice A' (polMinus ps).length c') ∧
      (polMinus ps).length ≤ c' ∧ RPol w' b0 A' (polMinus ps) ∧ Below w.heap.size w w' := by
  have HP := Hd.mk h
  have HB0 := Hd.mk hb0
  clear h hb0
  go_enter Tryz.func40, Tryz.ntmps40
  go_upto_region 2 with (fail)
  refine wp_gen (fun W => Below w.heap.size w W ∧ OwnT W b0 w.heap.size (.slice (some ⟨w.heap.size, 0, none⟩) 0 0) []) ⟨(Below.refl _ _).alloc (Nat.le_refl _) _, ownT_lit w b0 w.heap.size (Nat.le_refl _)⟩ ?_
  intro W0 hW
  have HB := Hd.mk hW.out.1
  have HO := Hd.mk hW.out.2
  clear hW
  go_wp2_with fail
  go_loopw [3, 4] (fun v3 v4 wr => ∃ (i : Nat) (acc : List TermD), v4 = .int .i64 i ∧ i ≤ ps.length ∧ acc.length = i ∧ Hd (acc = polMinus (ps.take i)) ∧ Hd (OwnT wr b0 w.heap.size v3 acc) ∧ Hd (Below w.heap.size w wr)) (fun _ v _ => ps.length - (intOf v).toNat)
  case atStart => exact ⟨0, [], rfl, by omega, rfl, ⟨rfl⟩, HO, HB⟩
  case round =>
    clear HO HB
    obtain ⟨i, acc, rfl, hi, hfl, HFA, HO, HB⟩ := hrel
    obtain ⟨Av, cv, rfl, hcv, _, hrv⟩ := HO.out.reads
    have HRV := Hd.mk hrv
    have HLN := Hd.mk hfl
    clear hrv hfl
    by_cases hlt : i < ps.length
    · have i1 : (i : Int) < ps.length := by omega
      have i3 : (0 : Int) ≤ i := by omega
      obtain ⟨ad, B1, c1, B2, c2, s, rfl, hab, hsi, hrt, q0, q1, q2, q3, q4, q5, q6⟩ := HP.out.get hlt
      have HFL : Hd (acc ++ [⟨negD s.c, s.m⟩] = polMinus (ps.take (i + 1))) := ⟨by
        have e1 : ps[i] = s := by have := hsi.out; rw [List.getElem?_eq_getElem hlt] at this; injection this
        rw [List.take_succ_eq_append_getElem hlt, e1, HFA.out]
        unfold polMinus
        simp⟩
      have CN := Hd.mk (fun W (hB : Hd (Below w.heap.size w W)) => rrat_Neg b0 _ s.c W (Nat.le_trans HB0.out hB.out.size) (hrt.out.rat.up hB.out))
      obtain ⟨X2, hX⟩ : ∃ X2, negD s.c = X2 := ⟨_, rfl⟩
      rw [hX] at CN HFL
      have SO := Hd.mk (fun W (hB : Below w.heap.size w W) => And.intro (Hd.mk hB) (And.intro (cell_up q0 hB) (And.intro (cell_up q1 hB) (And.intro (cell_up q2 hB) (And.intro (cell_up q3 hB) (And.intro (cell_up q4 hB) (And.intro (cell_up q5 hB) (cell_up q6 hB))))))))
      clear hX hsi
      go_wp2_with fail
      go_region_held3 (fun w' => Hd (Below w.heap.size w w') ∧ w'.cell? (ad.add (i * 7)) = some (.bool s.c.neg) ∧ w'.cell? ⟨(ad.add (i * 7)).block, (ad.add (i * 7)).off + 1, none⟩ = some (.slice B1 s.c.num.length c1) ∧ w'.cell? ⟨(ad.add (i * 7)).block, (ad.add (i * 7)).off + 2, none⟩ = some (.slice B2 s.c.den.length c2) ∧
          w'.cell? ⟨(ad.add (i * 7)).block, (ad.add (i * 7)).off + 3, none⟩ = some (.int .i64 s.m.x0) ∧ w'.cell? ⟨(ad.add (i * 7)).block, (ad.add (i * 7)).off + 3 + 1, none⟩ = some (.int .i64 s.m.x1) ∧ w'.cell? ⟨(ad.add (i * 7)).block, (ad.add (i * 7)).off + 3 + 2, none⟩ = some (.int .i64 s.m.x2) ∧ w'.cell? ⟨(ad.add (i * 7)).block, (ad.add (i * 7)).off + 3 + 3, none⟩ = some (.int .i64 s.m.x3))
        (first
          | exact SO.out _ HB.out
          | exact SO.out _ HB.out.drew
          | exact SO.out _ (goes HB.out hB5)
          | exact SO.out _ (goes HB.out (hB5.alloc hB5.size _))
          | exact SO.out _ AP.below)
        (first
          | (go_at_call 104; with_reducible refine (CN.out wr.drew ⟨HB.out.drew⟩).mono ?_; rintro e w5 ⟨x, rfl, hx, hb⟩
             have hB5 : Below wr.heap.size wr w5 := (Below.refl wr.heap.size wr).drew.trans hb
             have HX := Hd.mk hx
             obtain ⟨XA, xc, XB, xd, rfl, _, _, _, _⟩ := hx
             have T1 := rpol_one (t := ⟨X2, s.m⟩) (rterm_of HX.out s.m) 67
             dsimp only at T1
             obtain ⟨tn, htn⟩ : ∃ tn : TermD, tn = ⟨X2, s.m⟩ := ⟨_, rfl⟩
             rw [← htn] at T1
             have HT1 := Hd.mk T1
             have HFL2 : Hd (acc ++ [tn] = polMinus (ps.take (i + 1))) := ⟨by rw [htn]; exact HFL.out⟩
             have XL : Hd (acc.length + [tn].length ≤ 1000000) := ⟨by have := HLN.out; simp; omega⟩
             clear T1 htn)
          | (refine step_append_T (w0 := w) (us := [tn]) rfl _ _ 25 rfl Tryz.slPoly rfl rfl rfl (HO.out.up (hB5.alloc hB5.size _)) HT1.out HB0.out XL.out (goes HB.out (hB5.alloc hB5.size _)) (Nat.le_refl _) (goes HB.out (hB5.alloc hB5.size _)).size ?_; intro v' w8 AP))
      all_goals
        have HAP := Hd.mk AP
        have hl2 : (acc ++ [tn]).length = i + 1 := by rw [List.length_append, HLN.out]; rfl
        clear AP
        go_wp2_with fail
        go_roundw
        case measure => first | (simp [intOf]; done) | (simp [intOf]; omega)
        case rel => exact ⟨i + 1, _, by go_num, by omega, hl2, HFL2, ⟨HAP.out.own⟩, ⟨HAP.out.below⟩⟩
    · obtain rfl : i = ps.length := by omega
      have HF : Hd (acc = polMinus ps) := ⟨by rw [HFA.out, List.take_length]⟩
      go_wp2_with fail
      go_ret
      rw [← HF.out]
      exact ⟨Av, cv, rfl, hcv, HRV.out, HB.out⟩
end Go.Proofs.YtidjbiopneoeeaaGreat
/- The walk of the law PolyTells. No condition. -/
namespace Go.Proofs.YtidjbiopneoeeaaGreat
open Go.RowKit

/-- one box -/
structure Bo1 (S g : Nat) (w0 w : World) (ty : TypeId) (cs : Array Value) : Prop where
  below : Below S w0 w
  s1 : S ≤ g
  k1 : Bk w g ty cs
section
variable {S g : Nat} {w0 w w' : World} {ty : TypeId} {cs : Array Value}
theorem Bo1.up (h : Bo1 S g w0 w ty cs) (hb : Below w.heap.size w w') : Bo1 S g w0 w' ty cs :=
  ⟨h.below.trans (hb.mono (Nat.le_trans h.s1 (Nat.le_of_lt h.k1.lt))), h.s1, h.k1.up hb⟩
theorem Bo1.al (h : Bo1 S g w0 w ty cs) (o : Obj) : Bo1 S g w0 (w.alloc o) ty cs := h.up ((Below.refl _ _).alloc (Nat.le_refl _) _)
theorem Bo1.d1 (h : Bo1 S g w0 w ty cs) : Bo1 S g w0 w.drew ty cs := ⟨Below.dn h.below 1, h.s1, h.k1⟩
theorem Bo1.mk1 (w : World) (ty : TypeId) (cs : Array Value) : Bo1 w.heap.size w.heap.size w (w.alloc (Obj.cells cs ty)) ty cs := ⟨(Below.refl _ _).alloc (Nat.le_refl _) _, Nat.le_refl _, Bk.new_ _ _ _⟩
end
theorem rpols_bk3 {W : World} {b0 g : Nat} {t : TypeId} {p q r : List TermD} {A B C : Option Addr} {c d e : Nat} (hk : Bk W g t #[.slice A p.length c, .slice B q.length d, .slice C r.length e]) (h : RPol W b0 A p) (h' : RPol W b0 B q) (h'' : RPol W b0 C r) (hc : p.length ≤ c) (hd : q.length ≤ d) (he : r.length ≤ e) : RPols W b0 (some ⟨g, 0, none⟩) [p, q, r] := by
  refine ⟨_, Rd.of_bk hk 3 1 rfl, fun j x hj => ?_⟩
  match j, hj with
  | 0, hj => injection hj with hj; subst hj; exact ⟨_, _, rfl, hc, h⟩
  | 1, hj => injection hj with hj; subst hj; exact ⟨_, _, rfl, hd, h'⟩
  | 2, hj => injection hj with hj; subst hj; exact ⟨_, _, rfl, he, h''⟩

theorem shortP_nil : shortP [] := ⟨by simp, fun s hs => by cases hs⟩
theorem polAdd_short {o : Int} {ps : List (List TermD)} (h : ∀ p ∈ ps, shortP p) : shortP (polAdd o ps).2 := by
  unfold polAdd
  split
  · exact shortP_nil
  · exact (polMake_short fun s hs => by
      obtain ⟨p, hp, hs⟩ := List.mem_flatten.1 hs
      exact (h p hp).2 s hs).1
theorem polTimes_short {o : Int} {p : List TermD} (t : TermD) (h : shortP p) : shortP (polTimes o p t).2 :=
  ⟨Nat.le_trans (polTimes_facts o p t).1 h.1, (polTimes_facts o p t).2⟩
theorem mulC_short {o : Int} {p : List TermD} : ∀ {q : List TermD}, ∀ s ∈ (mulC o p q).2, s.c.short
  | [], s, hs => by cases hs
  | t :: q, s, hs => by
    unfold mulC at hs
    split at hs
    · cases hs
    · unfold appD at hs
      split at hs
      · cases hs
      · rcases List.mem_append.1 hs with hs | hs
        · exact (polTimes_facts o p t).2 s hs
        · exact mulC_short s hs
theorem polMul_short {o : Int} {p q : List TermD} : shortP (polMul o p q).2 := by
  unfold polMul
  split
  · exact shortP_nil
  · split
    · exact shortP_nil
    · exact (polMake_short mulC_short).1
theorem polMonic_short {o : Int} {p : List TermD} (h : shortP p) : shortP (polMonic o p).2 := by
  unfold polMonic
  split
  · exact shortP_nil
  · split
    · exact shortP_nil
    · split
      · exact shortP_nil
      · exact polTimes_short _ h

def AllP (b0 : Nat) (w : World) (l : List (Option Addr × List TermD)) : Prop := ∀ (j : Nat) (p : Option Addr × List TermD), l[j]? = some p → RPol w b0 p.1 p.2
section
variable {b0 : Nat} {w w' : World} {l : List (Option Addr × List TermD)}
theorem AllP.up (h : AllP b0 w l) (hb : Below w.heap.size w w') : AllP b0 w' l := fun j p hp => (h j p hp).up hb
theorem AllP.cons {A : Option Addr} {ts : List TermD} (h : AllP b0 w l) (hr : RPol w b0 A ts) : AllP b0 w ((A, ts) :: l) := fun j p hp => by
  match j, hp with
  | 0, hp => injection hp with hp; subst hp; exact hr
  | j + 1, hp => exact h j p hp
theorem AllP.nil : AllP b0 w [] := fun j p hp => by simp at hp
end
theorem same_call {b0 : Nat} {A B : Option Addr} {c d : Nat} {X : List TermD} {w : World} (h : RPol w b0 A X) (hc : X.length ≤ c) (hs : shortP X) (h' : RPol w b0 B X) (hd : X.length ≤ d) :
    Calls Tryz.prog 31 #[.slice A X.length c, .slice B X.length d] w fun e w' => e = .returned (.bool true) ∧ Below w.heap.size w w' := by
  have := rpol_Same b0 A B c d X X w h hc hs h' hd hs
  rwa [decide_eq_true rfl] at this

set_option maxHeartbeats 24000000 in
set_option maxRecDepth 100000 in
theorem law_PolyTells (order : Int) (A B C : Option Addr) (c d k : Nat) (ps qs rs : List TermD) (t : TermD) (TA TB : Option Addr) (tc td : Nat) (w : World)
    (h : RPol w w.heap.size A ps) (hc : ps.length ≤ c) (hm : c ≤ maxLen) (h' : RPol w w.heap.size B qs) (hc' : qs.length ≤ d) (hm' : d ≤ maxLen) (h'' : RPol w w.heap.size C rs) (hc'' : rs.length ≤ k) (hm'' : k ≤ maxLen)
    (ht : RTerm w w.heap.size (.agg #[.bool t.c.neg, .slice TA t.c.num.length tc, .slice TB t.c.den.length td, .int .i64 t.m.x0, .int .i64 t.m.x1, .int .i64 t.m.x2, .int .i64 t.m.x3]) t) :
    Calls Tryz.prog 13 #[.int .i64 order, .slice A ps.length c, .slice B qs.length d, .slice C rs.length k, .agg #[.bool t.c.neg, .slice TA t.c.num.length tc, .slice TB t.c.den.length td, .int .i64 t.m.x0, .int .i64 t.m.x1, .int .i64 t.m.x2, .int .i64 t.m.x3]] w fun e w' => e = .returned (.bool true) ∧ Below w.heap.size w w' := by
  have CH1 := Hd.mk (fun W (hB : Below w.heap.size w W) => law_heavy w.heap.size A c ps W (h.up hB) hc (Nat.le_trans hc hm))
  have CH2 := Hd.mk (fun W (hB : Below w.heap.size w W) => law_heavy w.heap.size B d qs W (h'.up hB) hc' (Nat.le_trans hc' hm'))
  have CH3 := Hd.mk (fun W (hB : Below w.heap.size w W) => law_heavy w.heap.size C k rs W (h''.up hB) hc'' (Nat.le_trans hc'' hm''))
  have CH4 : Hd (∀ W A', RPol W w.heap.size A' [t] → Calls Tryz.prog 34 #[.slice A' 1 1] W fun e w' => e = .returned (.bool (heavyD [t])) ∧ Below W.heap.size W w') := ⟨fun W A' hh => law_heavy w.heap.size A' 1 [t] W hh (Nat.le_refl _) (by simp [maxLen])⟩
  have CS := Hd.mk law_shown
  have AL0 := Hd.mk (((AllP.nil.cons h).cons h').cons h'')
  have HT := Hd.mk ht
  clear h h' h'' ht hm hm' hm''
  cases hv1 : heavyD ps
  · rw [hv1] at CH1
    cases hv2 : heavyD qs
    · rw [hv2] at CH2
      cases hv3 : heavyD rs
      · rw [hv3] at CH3
        cases hv4 : heavyD [t]
        · rw [hv4] at CH4
          obtain ⟨s1, l1⟩ := heavy_short hv1
          obtain ⟨s2, l2⟩ := heavy_short hv2
          obtain ⟨s3, l3⟩ := heavy_short hv3
          obtain ⟨s4, l4⟩ := heavy_short hv4
          have s5 := s4.2 t (by simp)
          have sps : ∀ p ∈ [ps, qs, rs], shortP p := fun p hp => by
            simp only [List.mem_cons, List.not_mem_nil, or_false] at hp
            rcases hp with rfl | rfl | rfl
            · exact s1
            · exact s2
            · exact s3
          clear hv1 hv2 hv3 hv4 s4 l4
          obtain ⟨Ea, Xa, hXa⟩ : ∃ E X, polAdd order [ps, qs, rs] = (E, X) := ⟨_, _, rfl⟩
          obtain ⟨Ec, Xc, hXc⟩ : ∃ E X, polTimes order ps t = (E, X) := ⟨_, _, rfl⟩
          obtain ⟨Ex, Xx, hXx⟩ : ∃ E X, polMul order ps qs = (E, X) := ⟨_, _, rfl⟩
          obtain ⟨Ez, Xz, hXz⟩ : ∃ E X, polMonic order ps = (E, X) := ⟨_, _, rfl⟩
          have HSa : Hd (shortP Xa) := ⟨by have := polAdd_short (o := order) sps; rwa [hXa] at this⟩
          have HSc : Hd (shortP Xc) := ⟨by have := polTimes_short (o := order) t s1; rwa [hXc] at this⟩
          have HSx : Hd (shortP Xx) := ⟨by have := polMul_short (o := order) (p := ps) (q := qs); rwa [hXx] at this⟩
          have HSz : Hd (shortP Xz) := ⟨by have := polMonic_short (o := order) s1; rwa [hXz] at this⟩
          have CA1 : Hd (∀ W A', Below w.heap.size w W → RPols W w.heap.size A' [ps, qs, rs] → Calls Tryz.prog 38 #[.int .i64 order, .slice A' 3 3] W fun e w' => ∃ A' c', e = .returned (.tuple #[.slice A' Xa.length c', .int .i64 Ea]) ∧ Xa.length ≤ c' ∧ RPol w' w.heap.size A' Xa ∧ Below W.heap.size W w') := ⟨fun W A' hB hh => by
            have := poly_Add w.heap.size order A' 3 [ps, qs, rs] W hB.size hh (Nat.le_refl _) ⟨by simp, sps⟩
            rwa [hXa] at this⟩
          have CA2 : Hd (∀ W A', Below w.heap.size w W → RPols W w.heap.size A' [ps, qs, rs] → Calls Tryz.prog 45 #[.int .i64 order, .slice A' 3 3] W fun e w' => ∃ A' c', e = .returned (.tuple #[.slice A' Xa.length c', .int .i64 Ea]) ∧ Xa.length ≤ c' ∧ RPol w' w.heap.size A' Xa ∧ Below W.heap.size W w') := ⟨fun W A' hB hh => by
            have := rpol_Add w.heap.size order A' 3 [ps, qs, rs] W hB.size hh (Nat.le_refl _) (by simp) ⟨by simp, sps⟩
            rwa [hXa] at this⟩
          have CT1 : Hd (∀ W , Below w.heap.size w W → AllP w.heap.size W [(C, rs), (B, qs), (A, ps)] → Calls Tryz.prog 41 #[.int .i64 order, .slice A ps.length c, .agg #[.bool t.c.neg, .slice TA t.c.num.length tc, .slice TB t.c.den.length td, .int .i64 t.m.x0, .int .i64 t.m.x1, .int .i64 t.m.x2, .int .i64 t.m.x3]] W fun e w' => ∃ A' c', e = .returned (.tuple #[.slice A' Xc.length c', .int .i64 Ec]) ∧ Xc.length ≤ c' ∧ RPol w' w.heap.size A' Xc ∧ Below W.heap.size W w') := ⟨fun W  hB hh => by
            have := poly_Times w.heap.size order A c ps (.agg #[.bool t.c.neg, .slice TA t.c.num.length tc, .slice TB t.c.den.length td, .int .i64 t.m.x0, .int .i64 t.m.x1, .int .i64 t.m.x2, .int .i64 t.m.x3]) t W hB.size (hh 2 _ rfl) hc s1 (HT.out.up hB) s5
            rwa [hXc] at this⟩
          have CT2 : Hd (∀ W , Below w.heap.size w W → AllP w.heap.size W [(C, rs), (B, qs), (A, ps)] → Calls Tryz.prog 46 #[.int .i64 order, .slice A ps.length c, .agg #[.bool t.c.neg, .slice TA t.c.num.length tc, .slice TB t.c.den.length td, .int .i64 t.m.x0, .int .i64 t.m.x1, .int .i64 t.m.x2, .int .i64 t.m.x3]] W fun e w' => ∃ A' c', e = .returned (.tuple #[.slice A' Xc.length c', .int .i64 Ec]) ∧ Xc.length ≤ c' ∧ RPol w' w.heap.size A' Xc ∧ Below W.heap.size W w') := ⟨fun W  hB hh => by
            have := rpol_Times w.heap.size order A c ps (.agg #[.bool t.c.neg, .slice TA t.c.num.length tc, .slice TB t.c.den.length td, .int .i64 t.m.x0, .int .i64 t.m.x1, .int .i64 t.m.x2, .int .i64 t.m.x3]) t W hB.size (hh 2 _ rfl) hc s1 (HT.out.up hB) s5
            rwa [hXc] at this⟩
          have CM1 : Hd (∀ W , Below w.heap.size w W → AllP w.heap.size W [(C, rs), (B, qs), (A, ps)] → Calls Tryz.prog 39 #[.int .i64 order, .slice A ps.length c, .slice B qs.length d] W fun e w' => ∃ A' c', e = .returned (.tuple #[.slice A' Xx.length c', .int .i64 Ex]) ∧ Xx.length ≤ c' ∧ RPol w' w.heap.size A' Xx ∧ Below W.heap.size W w') := ⟨fun W  hB hh => by
            have := poly_Mul w.heap.size order A B c d ps qs W hB.size (hh 2 _ rfl) hc s1 (hh 1 _ rfl) hc' s2
            rwa [hXx] at this⟩
          have CM2 : Hd (∀ W , Below w.heap.size w W → AllP w.heap.size W [(C, rs), (B, qs), (A, ps)] → Calls Tryz.prog 47 #[.int .i64 order, .slice A ps.length c, .slice B qs.length d] W fun e w' => ∃ A' c', e = .returned (.tuple #[.slice A' Xx.length c', .int .i64 Ex]) ∧ Xx.length ≤ c' ∧ RPol w' w.heap.size A' Xx ∧ Below W.heap.size W w') := ⟨fun W  hB hh => by
            have := rpol_Mul w.heap.size order A B c d ps qs W hB.size (hh 2 _ rfl) hc s1 (hh 1 _ rfl) hc' s2
            rwa [hXx] at this⟩
          have CN1 : Hd (∀ W , Below w.heap.size w W → AllP w.heap.size W [(C, rs), (B, qs), (A, ps)] → Calls Tryz.prog 42 #[.int .i64 order, .slice A ps.length c] W fun e w' => ∃ A' c', e = .returned (.tuple #[.slice A' Xz.length c', .int .i64 Ez]) ∧ Xz.length ≤ c' ∧ RPol w' w.heap.size A' Xz ∧ Below W.heap.size W w') := ⟨fun W  hB hh => by
            have := poly_Monic w.heap.size order A c ps W hB.size (hh 2 _ rfl) hc s1
            rwa [hXz] at this⟩
          have CN2 : Hd (∀ W , Below w.heap.size w W → AllP w.heap.size W [(C, rs), (B, qs), (A, ps)] → Calls Tryz.prog 48 #[.int .i64 order, .slice A ps.length c] W fun e w' => ∃ A' c', e = .returned (.tuple #[.slice A' Xz.length c', .int .i64 Ez]) ∧ Xz.length ≤ c' ∧ RPol w' w.heap.size A' Xz ∧ Below W.heap.size W w') := ⟨fun W  hB hh => by
            have := rpol_Monic w.heap.size order A c ps W hB.size (hh 2 _ rfl) hc s1
            rwa [hXz] at this⟩
          clear hXa hXc hXx hXz s1 s2 s3 l1 l2 l3 s5 sps
          go_enter Tryz.func13, Tryz.ntmps13
          go_upto_region 1 with (fail)
          refine wp_gen (fun W => Bo1 w.heap.size w.heap.size w W 67 #[.bool t.c.neg, .slice TA t.c.num.length tc, .slice TB t.c.den.length td, .int .i64 t.m.x0, .int .i64 t.m.x1, .int .i64 t.m.x2, .int .i64 t.m.x3]) (Bo1.mk1 w _ _) ?_
          intro W BX
          go_wp2_with fail
          refine (CH1.out _ BX.out.below).mono ?_
          rintro e w1 ⟨rfl, hb⟩
          have BX1 := Hd.mk (BX.out.up hb)
          clear hb
          go_wp2_with fail
          refine (CH2.out _ BX1.out.below).mono ?_
          rintro e w2 ⟨rfl, hb⟩
          have BX2 := Hd.mk (BX1.out.up hb)
          clear hb
          go_wp2_with fail
          refine (CH3.out _ BX2.out.below).mono ?_
          rintro e w3 ⟨rfl, hb⟩
          have BX3 := Hd.mk (BX2.out.up hb)
          clear hb
          obtain ⟨⟨q0, q1, q2⟩, q3, q4, q5, q6⟩ := BX3.out.k1.seven
          go_wp2_with fail
          clear q0 q1 q2 q3 q4 q5 q6
          refine (CH4.out _ _ (rpol_one (t := t) (HT.out.up BX3.out.below) 67)).mono ?_
          rintro e w4 ⟨rfl, hb⟩
          have BX4 := Hd.mk ((BX3.out.al _).up hb)
          clear hb
          go_wp2_with fail
          refine (CS.out _).mono ?_
          rintro e w5 ⟨rfl, hb⟩
          have BX5 := Hd.mk (BX4.out.up hb)
          have AR5 := Hd.mk (AL0.out.up BX5.out.below)
          clear hb CH1 CH2 CH3 CH4 CS
          have AL5 := Hd.mk (AllP.nil (b0 := w.heap.size) (w := w5))
          go_wp2_with fail
          refine ((CA1.out _ _ (BX5.out.al _).below (rpols_bk3 (Bk.new_ _ _ _) ((AR5.out 2 _ rfl).up (below1 _ _)) ((AR5.out 1 _ rfl).up (below1 _ _)) ((AR5.out 0 _ rfl).up (below1 _ _)) hc hc' hc''))).mono ?_
          rintro e w6 ⟨A1, cA1, rfl, hA1, hr, hb⟩
          have BX6 := Hd.mk ((BX5.out.al _).up hb)
          have AR6 := Hd.mk (AR5.out.up (goes (below1 _ _) hb))
          have AL6 := Hd.mk ((AL5.out.up (goes (below1 _ _) hb)).cons hr)
          clear hr hb
          go_wp2_with fail
          refine ((CA2.out _ _ (BX6.out.al _).below (rpols_bk3 (Bk.new_ _ _ _) ((AR6.out 2 _ rfl).up (below1 _ _)) ((AR6.out 1 _ rfl).up (below1 _ _)) ((AR6.out 0 _ rfl).up (below1 _ _)) hc hc' hc''))).mono ?_
          rintro e w7 ⟨A2, cA2, rfl, hA2, hr, hb⟩
          have BX7 := Hd.mk ((BX6.out.al _).up hb)
          have AR7 := Hd.mk (AR6.out.up (goes (below1 _ _) hb))
          have AL7 := Hd.mk ((AL6.out.up (goes (below1 _ _) hb)).cons hr)
          clear hr hb
          obtain ⟨⟨q0, q1, q2⟩, q3, q4, q5, q6⟩ := BX7.out.k1.seven
          go_wp2_with fail
          clear q0 q1 q2 q3 q4 q5 q6
          refine (CT1.out _ BX7.out.below AR7.out).mono ?_
          rintro e w8 ⟨A3, cA3, rfl, hA3, hr, hb⟩
          have BX8 := Hd.mk (BX7.out.up hb)
          have AR8 := Hd.mk (AR7.out.up hb)
          have AL8 := Hd.mk ((AL7.out.up hb).cons hr)
          clear hr hb
          obtain ⟨⟨q0, q1, q2⟩, q3, q4, q5, q6⟩ := BX8.out.k1.seven
          go_wp2_with fail
          clear q0 q1 q2 q3 q4 q5 q6
          refine (CT2.out _ BX8.out.below AR8.out).mono ?_
          rintro e w9 ⟨A4, cA4, rfl, hA4, hr, hb⟩
          have BX9 := Hd.mk (BX8.out.up hb)
          have AR9 := Hd.mk (AR8.out.up hb)
          have AL9 := Hd.mk ((AL8.out.up hb).cons hr)
          clear hr hb
          go_wp2_with fail
          refine (CM1.out _ BX9.out.below AR9.out).mono ?_
          rintro e w10 ⟨A5, cA5, rfl, hA5, hr, hb⟩
          have BX10 := Hd.mk (BX9.out.up hb)
          have AR10 := Hd.mk (AR9.out.up hb)
          have AL10 := Hd.mk ((AL9.out.up hb).cons hr)
          clear hr hb
          go_wp2_with fail
          refine (CM2.out _ BX10.out.below AR10.out).mono ?_
          rintro e w11 ⟨A6, cA6, rfl, hA6, hr, hb⟩
          have BX11 := Hd.mk (BX10.out.up hb)
          have AR11 := Hd.mk (AR10.out.up hb)
          have AL11 := Hd.mk ((AL10.out.up hb).cons hr)
          clear hr hb
          go_wp2_with fail
          refine (CN1.out _ BX11.out.below AR11.out).mono ?_
          rintro e w12 ⟨A7, cA7, rfl, hA7, hr, hb⟩
          have BX12 := Hd.mk (BX11.out.up hb)
          have AR12 := Hd.mk (AR11.out.up hb)
          have AL12 := Hd.mk ((AL11.out.up hb).cons hr)
          clear hr hb
          go_wp2_with fail
          refine (CN2.out _ BX12.out.below AR12.out).mono ?_
          rintro e w13 ⟨A8, cA8, rfl, hA8, hr, hb⟩
          have BX13 := Hd.mk (BX12.out.up hb)
          have AR13 := Hd.mk (AR12.out.up hb)
          have AL13 := Hd.mk ((AL12.out.up hb).cons hr)
          clear hr hb
          clear CA1 CA2 CT1 CT2 CM1 CM2 CN1 CN2 AR5 AR6 AR7 AR8 AR9 AR10 AR11 AR12 AR13 AL0 AL5 AL6 AL7 AL8 AL9 AL10 AL11 AL12 BX BX1 BX2 BX3 BX4 BX5 BX6 BX7 BX8 BX9 BX10 BX11 BX12
          go_wp2_with fail
          refine (same_call (A := A1) (B := A2) (c := cA1) (d := cA2) (X := Xa) (AL13.out 7 (A1, Xa) rfl) hA1 HSa.out (AL13.out 6 (A2, Xa) rfl) hA2).mono ?_
          rintro e w14 ⟨rfl, hb⟩
          have BX14 := Hd.mk (BX13.out.up hb)
          have AL14 := Hd.mk (AL13.out.up hb)
          clear hb
          go_wp2_with fail
          refine (same_call (A := A3) (B := A4) (c := cA3) (d := cA4) (X := Xc) (AL14.out 5 (A3, Xc) rfl) hA3 HSc.out (AL14.out 4 (A4, Xc) rfl) hA4).mono ?_
          rintro e w15 ⟨rfl, hb⟩
          have BX15 := Hd.mk (BX14.out.up hb)
          have AL15 := Hd.mk (AL14.out.up hb)
          clear hb
          go_wp2_with fail
          refine (same_call (A := A5) (B := A6) (c := cA5) (d := cA6) (X := Xx) (AL15.out 3 (A5, Xx) rfl) hA5 HSx.out (AL15.out 2 (A6, Xx) rfl) hA6).mono ?_
          rintro e w16 ⟨rfl, hb⟩
          have BX16 := Hd.mk (BX15.out.up hb)
          have AL16 := Hd.mk (AL15.out.up hb)
          clear hb
          go_wp2_with fail
          refine (same_call (A := A7) (B := A8) (c := cA7) (d := cA8) (X := Xz) (AL16.out 1 (A7, Xz) rfl) hA7 HSz.out (AL16.out 0 (A8, Xz) rfl) hA8).mono ?_
          rintro e w17 ⟨rfl, hb⟩
          have BX17 := Hd.mk (BX16.out.up hb)
          have AL17 := Hd.mk (AL16.out.up hb)
          clear hb
          go_wp2_with fail
          go_ret
          exact ⟨by simp, BX17.out.below⟩
        · rw [hv4] at CH4
          clear hv1 hv2 hv3 hv4
          go_enter Tryz.func13, Tryz.ntmps13
          go_upto_region 1 with (fail)
          refine wp_gen (fun W => Bo1 w.heap.size w.heap.size w W 67 #[.bool t.c.neg, .slice TA t.c.num.length tc, .slice TB t.c.den.length td, .int .i64 t.m.x0, .int .i64 t.m.x1, .int .i64 t.m.x2, .int .i64 t.m.x3]) (Bo1.mk1 w _ _) ?_
          intro W BX
          go_wp2_with fail
          refine (CH1.out _ BX.out.below).mono ?_
          rintro e w1 ⟨rfl, hb⟩
          have BX1 := Hd.mk (BX.out.up hb)
          clear hb
          go_wp2_with fail
          refine (CH2.out _ BX1.out.below).mono ?_
          rintro e w2 ⟨rfl, hb⟩
          have BX2 := Hd.mk (BX1.out.up hb)
          clear hb
          go_wp2_with fail
          refine (CH3.out _ BX2.out.below).mono ?_
          rintro e w3 ⟨rfl, hb⟩
          have BX3 := Hd.mk (BX2.out.up hb)
          clear hb
          obtain ⟨⟨q0, q1, q2⟩, q3, q4, q5, q6⟩ := BX3.out.k1.seven
          go_wp2_with fail
          clear q0 q1 q2 q3 q4 q5 q6
          refine (CH4.out _ _ (rpol_one (t := t) (HT.out.up BX3.out.below) 67)).mono ?_
          rintro e w4 ⟨rfl, hb⟩
          have BX4 := Hd.mk ((BX3.out.al _).up hb)
          clear hb
          go_wp2_with fail
          refine (CS.out _).mono ?_
          rintro e w9 ⟨rfl, hb⟩
          have BX9 := Hd.mk (BX4.out.up hb)
          clear hb
          go_wp2_with fail
          go_ret
          exact ⟨rfl, BX9.out.below⟩
      · rw [hv3] at CH3
        clear hv1 hv2 hv3
        go_enter Tryz.func13, Tryz.ntmps13
        go_upto_region 1 with (fail)
        refine wp_gen (fun W => Bo1 w.heap.size w.heap.size w W 67 #[.bool t.c.neg, .slice TA t.c.num.length tc, .slice TB t.c.den.length td, .int .i64 t.m.x0, .int .i64 t.m.x1, .int .i64 t.m.x2, .int .i64 t.m.x3]) (Bo1.mk1 w _ _) ?_
        intro W BX
        go_wp2_with fail
        refine (CH1.out _ BX.out.below).mono ?_
        rintro e w1 ⟨rfl, hb⟩
        have BX1 := Hd.mk (BX.out.up hb)
        clear hb
        go_wp2_with fail
        refine (CH2.out _ BX1.out.below).mono ?_
        rintro e w2 ⟨rfl, hb⟩
        have BX2 := Hd.mk (BX1.out.up hb)
        clear hb
        go_wp2_with fail
        refine (CH3.out _ BX2.out.below).mono ?_
        rintro e w3 ⟨rfl, hb⟩
        have BX3 := Hd.mk (BX2.out.up hb)
        clear hb
        go_wp2_with fail
        refine (CS.out _).mono ?_
        rintro e w9 ⟨rfl, hb⟩
        have BX9 := Hd.mk (BX3.out.up hb)
        clear hb
        go_wp2_with fail
        go_ret
        exact ⟨rfl, BX9.out.below⟩
    · rw [hv2] at CH2
      clear hv1 hv2
      go_enter Tryz.func13, Tryz.ntmps13
      go_upto_region 1 with (fail)
      refine wp_gen (fun W => Bo1 w.heap.size w.heap.size w W 67 #[.bool t.c.neg, .slice TA t.c.num.length tc, .slice TB t.c.den.length td, .int .i64 t.m.x0, .int .i64 t.m.x1, .int .i64 t.m.x2, .int .i64 t.m.x3]) (Bo1.mk1 w _ _) ?_
      intro W BX
      go_wp2_with fail
      refine (CH1.out _ BX.out.below).mono ?_
      rintro e w1 ⟨rfl, hb⟩
      have BX1 := Hd.mk (BX.out.up hb)
      clear hb
      go_wp2_with fail
      refine (CH2.out _ BX1.out.below).mono ?_
      rintro e w2 ⟨rfl, hb⟩
      have BX2 := Hd.mk (BX1.out.up hb)
      clear hb
      go_wp2_with fail
      refine (CS.out _).mono ?_
      rintro e w9 ⟨rfl, hb⟩
      have BX9 := Hd.mk (BX2.out.up hb)
      clear hb
      go_wp2_with fail
      go_ret
      exact ⟨rfl, BX9.out.below⟩
  · rw [hv1] at CH1
    clear hv1
    go_enter Tryz.func13, Tryz.ntmps13
    go_upto_region 1 with (fail)
    refine wp_gen (fun W => Bo1 w.heap.size w.heap.size w W 67 #[.bool t.c.neg, .slice TA t.c.num.length tc, .slice TB t.c.den.length td, .int .i64 t.m.x0, .int .i64 t.m.x1, .int .i64 t.m.x2, .int .i64 t.m.x3]) (Bo1.mk1 w _ _) ?_
    intro W BX
    go_wp2_with fail
    refine (CH1.out _ BX.out.below).mono ?_
    rintro e w1 ⟨rfl, hb⟩
    have BX1 := Hd.mk (BX.out.up hb)
    clear hb
    go_wp2_with fail
    refine (CS.out _).mono ?_
    rintro e w9 ⟨rfl, hb⟩
    have BX9 := Hd.mk (BX1.out.up hb)
    clear hb
    go_wp2_with fail
    go_ret
    exact ⟨rfl, BX9.out.below⟩
end Go.Proofs.YtidjbiopneoeeaaGreat
