/- Parts of the proof, joined: what each says stands at its head. -/
import Derived.Test.YtidjbiopneoeeaaGreatM34
import Derived.Test.YtidjbiopneoeeaaGreatM29
set_option linter.unusedVariables false
set_option linter.unusedSimpArgs false
/- The walk of the law PolyRing. The condition: the arguments read so. -/
namespace Go.Proofs.YtidjbiopneoeeaaGreat
open Go.RowKit

/-- what the law holds while it goes on: the order's box, and rows of terms -/
structure Rg (b0 g : Nat) (o : Int) (w0 w : World) (l : List (Option Addr × List TermD)) : Prop where
  below : Below w0.heap.size w0 w
  s : w0.heap.size ≤ g
  b : b0 ≤ w0.heap.size
  k : Bk w g 3 #[.int .i64 o]
  all : AllP b0 w l
section
variable {b0 g : Nat} {o : Int} {w0 w w' : World} {l : List (Option Addr × List TermD)}
theorem Rg.up (h : Rg b0 g o w0 w l) (hb : Below w.heap.size w w') : Rg b0 g o w0 w' l :=
  ⟨goes h.below hb, h.s, h.b, h.k.up hb, h.all.up hb⟩
theorem Rg.al (h : Rg b0 g o w0 w l) (x : Obj) : Rg b0 g o w0 (w.alloc x) l := h.up (below1 _ _)
theorem Rg.d1 (h : Rg b0 g o w0 w l) : Rg b0 g o w0 w.drew l := h.up (Below.refl _ _).drew
theorem Rg.cons {A : Option Addr} {ts : List TermD} (h : Rg b0 g o w0 w l) (hr : RPol w b0 A ts) : Rg b0 g o w0 w ((A, ts) :: l) := ⟨h.below, h.s, h.b, h.k, h.all.cons hr⟩
theorem Rg.hb (h : Rg b0 g o w0 w l) : b0 ≤ w.heap.size := Nat.le_trans h.b h.below.size
theorem Rg.at (h : Rg b0 g o w0 w l) (j : Nat) {A : Option Addr} {ts : List TermD} (hj : l[j]? = some (A, ts)) : RPol w b0 A ts := h.all j _ hj
end
theorem law_add {b0 g : Nat} {o E : Int} {ps : List (List TermD)} {X : List TermD} (hs : shortPs ps) (he : polAdd o ps = (E, X)) (W : World) (A : Option Addr) (c : Nat) (hb : b0 ≤ W.heap.size) (hk : Bk W g 3 #[.int .i64 o]) (hp : RPols W b0 A ps) (hc : ps.length ≤ c) :
    Calls Tryz.prog 37 #[.slice A ps.length c, .pointer (some ⟨g, 0, none⟩)] W fun e w' => ∃ A' c', e = .returned (.slice A' X.length c') ∧ X.length ≤ c' ∧ RPol w' b0 A' X ∧ Below W.heap.size W w' := by
  have CA := Hd.mk (add_call' hs he W A c hb hp hc)
  have q0 := hk.one
  clear hs he hb hk hp hc
  go_enter Tryz.func37, Tryz.ntmps37
  go_wp2_with fail
  refine CA.out.mono ?_
  rintro e w1 ⟨A1, c1, rfl, hc1, hr, hb⟩
  have HB := Hd.mk hb
  have HR := Hd.mk hr
  clear hb hr q0
  go_wp2_with fail
  go_ret
  exact ⟨A1, c1, rfl, hc1, HR.out, HB.out⟩
theorem shortPs2 {a b : List TermD} (ha : shortP a) (hb : shortP b) : shortPs [a, b] := ⟨by simp, fun p hp => by
  simp only [List.mem_cons, List.not_mem_nil, or_false] at hp
  rcases hp with rfl | rfl
  · exact ha
  · exact hb⟩
theorem shortPs3 {a b c : List TermD} (ha : shortP a) (hb : shortP b) (hc : shortP c) : shortPs [a, b, c] := ⟨by simp, fun p hp => by
  simp only [List.mem_cons, List.not_mem_nil, or_false] at hp
  rcases hp with rfl | rfl | rfl
  · exact ha
  · exact hb
  · exact hc⟩
theorem Bk.six {w : World} {g : Nat} {t : TypeId} {v0 v1 v2 v3 v4 v5 : Value} (h : Bk w g t #[v0, v1, v2, v3, v4, v5]) : w.cell? ⟨g, 0, none⟩ = some v0 ∧ w.cell? ⟨g, 1, none⟩ = some v1 ∧ w.cell? ⟨g, 2, none⟩ = some v2 ∧ w.cell? ⟨g, 3, none⟩ = some v3 ∧ w.cell? ⟨g, 4, none⟩ = some v4 ∧ w.cell? ⟨g, 5, none⟩ = some v5 := by
  refine ⟨?_, ?_, ?_, ?_, ?_, ?_⟩ <;> (rw [h.cell]; rfl)
theorem code0 {E : Int} (h : E = 0) : (E != 0) = false ∧ (E == 0) = true := by subst h; exact ⟨rfl, rfl⟩
theorem code90 {E : Int} (h : E = 90) : (E != 0) = true ∧ (E == 0) = false ∧ (E == 90) = true := by subst h; exact ⟨rfl, rfl, rfl⟩
/-- the closure at two, at three rows that a block holds -/
theorem law_add2 {b0 g : Nat} {o E : Int} {p q X : List TermD} (hs : shortPs [p, q]) (he : polAdd o [p, q] = (E, X)) {w0 W : World} {l : List (Option Addr × List TermD)} (h : Rg b0 g o w0 W l) {A B : Option Addr} {c d : Nat} (hp : RPol W b0 A p) (hq : RPol W b0 B q) (hc : p.length ≤ c) (hd : q.length ≤ d) :
    Calls Tryz.prog 37 #[.slice (some ⟨W.heap.size, 0, none⟩) 2 2, .pointer (some ⟨g, 0, none⟩)] (W.alloc (.cells #[.slice A p.length c, .slice B q.length d] 25)) fun e w' => ∃ A' c', e = .returned (.slice A' X.length c') ∧ X.length ≤ c' ∧ RPol w' b0 A' X ∧ Rg b0 g o w0 w' l ∧ Below W.heap.size W w' :=
  (law_add hs he _ _ 2 (h.al _).hb (h.al _).k (rpols_bk2 (p := p) (q := q) (Bk.new_ _ _ _) (hp.up (below1 _ _)) (hq.up (below1 _ _)) hc hd) (Nat.le_refl _)).mono fun e w' ⟨A', c', he, hc', hr, hb⟩ => ⟨A', c', he, hc', hr, (h.al _).up hb, goes (below1 _ _) hb⟩
theorem law_add2d {b0 g : Nat} {o E : Int} {p q X : List TermD} (hs : shortPs [p, q]) (he : polAdd o [p, q] = (E, X)) {w0 W : World} {l : List (Option Addr × List TermD)} (h : Rg b0 g o w0 W l) {A B : Option Addr} {c d : Nat} (hp : RPol W b0 A p) (hq : RPol W b0 B q) (hc : p.length ≤ c) (hd : q.length ≤ d) :
    Calls Tryz.prog 37 #[.slice (some ⟨W.heap.size, 0, none⟩) 2 2, .pointer (some ⟨g, 0, none⟩)] (W.alloc (.cells #[.slice A p.length c, .slice B q.length d] 25)).drew fun e w' => ∃ A' c', e = .returned (.slice A' X.length c') ∧ X.length ≤ c' ∧ RPol w' b0 A' X ∧ Rg b0 g o w0 w' l ∧ Below W.heap.size W w' :=
  (law_add hs he _ _ 2 (h.al _).d1.hb (h.al _).d1.k ((rpols_bk2 (p := p) (q := q) (Bk.new_ _ _ _) (hp.up (below1 _ _)) (hq.up (below1 _ _)) hc hd).up (Below.refl _ _).drew) (Nat.le_refl _)).mono fun e w' ⟨A', c', he, hc', hr, hb⟩ => ⟨A', c', he, hc', hr, (h.al _).d1.up hb, goes (below1 _ _).drew hb⟩
theorem law_add3 {b0 g : Nat} {o E : Int} {p q r X : List TermD} (hs : shortPs [p, q, r]) (he : polAdd o [p, q, r] = (E, X)) {w0 W : World} {l : List (Option Addr × List TermD)} (h : Rg b0 g o w0 W l) {A B C : Option Addr} {c d e : Nat} (hp : RPol W b0 A p) (hq : RPol W b0 B q) (hr : RPol W b0 C r) (hc : p.length ≤ c) (hd : q.length ≤ d) (hh : r.length ≤ e) :
    Calls Tryz.prog 37 #[.slice (some ⟨W.heap.size, 0, none⟩) 3 3, .pointer (some ⟨g, 0, none⟩)] (W.alloc (.cells #[.slice A p.length c, .slice B q.length d, .slice C r.length e] 25)) fun e w' => ∃ A' c', e = .returned (.slice A' X.length c') ∧ X.length ≤ c' ∧ RPol w' b0 A' X ∧ Rg b0 g o w0 w' l ∧ Below W.heap.size W w' :=
  (law_add hs he _ _ 3 (h.al _).hb (h.al _).k (rpols_bk3 (p := p) (q := q) (r := r) (Bk.new_ _ _ _) (hp.up (below1 _ _)) (hq.up (below1 _ _)) (hr.up (below1 _ _)) hc hd hh) (Nat.le_refl _)).mono fun e w' ⟨A', c', he, hc', hr, hb⟩ => ⟨A', c', he, hc', hr, (h.al _).up hb, goes (below1 _ _) hb⟩

set_option maxHeartbeats 24000000 in
set_option maxRecDepth 100000 in
theorem law_PolyRing (a0 : Int) (SA SB SC SD SE SF : Option Addr) (sa sb sc sd se sf : Nat) (ns ns' ns'' : List Int) (ms ms' ms'' : List (Int × Int × Int)) (w : World) (h0 : 0 ≤ a0) (h1 : a0 ≤ 255) (h : RSm w SA sa SB sb ns ms) (h' : RSm w SC sc SD sd ns' ms') (h'' : RSm w SE se SF sf ns'' ms'') :
    Calls Tryz.prog 9 #[.int .u8 a0, .agg #[.slice SA ns.length sa, .slice SB ms.length sb, .slice SC ns'.length sc, .slice SD ms'.length sd, .slice SE ns''.length se, .slice SF ms''.length sf]] w fun e w' => e = .returned (.bool true) ∧ Below w.heap.size w w' := by
  have ho := oOk_mod h0
  obtain ⟨o, rO⟩ : ∃ o, a0 % 3 = o := ⟨_, rfl⟩
  rw [rO] at ho
  obtain ⟨P, hP, lp, CM⟩ := made_call ho h
  obtain ⟨Q, hQ, lq, CM'⟩ := made_call ho h'
  obtain ⟨R, hR, lr, CM''⟩ := made_call ho h''
  have sP := hP.short
  have sQ := hQ.short
  have sR := hR.short
  have CP := Hd.mk CM
  have CQ := Hd.mk CM'
  have CR := Hd.mk CM''
  have CS := Hd.mk law_shown
  obtain ⟨S, eS1, eS2, polS, lowS, lenS, linS⟩ := ring_add hP hQ
  obtain ⟨S2, eT1, eT2, polT, lowT, lenT, linT⟩ := ring_add hQ hR
  obtain ⟨E1, X1, e1⟩ : ∃ E X, polMul o P Q = (E, X) := ⟨_, _, rfl⟩
  obtain ⟨E2, X2, e2⟩ : ∃ E X, polMul o P R = (E, X) := ⟨_, _, rfl⟩
  obtain ⟨E3, X3, e3⟩ : ∃ E X, polMul o P S2 = (E, X) := ⟨_, _, rfl⟩
  obtain ⟨E4, X4, e4⟩ : ∃ E X, polAdd o [S, R] = (E, X) := ⟨_, _, rfl⟩
  have e1' : polMul o Q P = (E1, X1) := by rw [← (ring_mul hP hQ).1]; exact e1
  have e4' : polAdd o [P, Q, R] = (E4, X4) := by rw [← ring_add3 hP hQ hR polS lenS linS]; exact e4
  have hE1 : Hd (E1 = 0 ∨ E1 = 90) := ⟨by have := (ring_mul hP hQ).2; rwa [e1] at this⟩
  have hE2 : Hd (E2 = 0 ∨ E2 = 90) := ⟨by have := (ring_mul hP hR).2; rwa [e2] at this⟩
  have hD := ring_dist hP hQ hR polT lowT linT
  rw [e1, e2, e3] at hD
  have hE3 : Hd (E3 = 0 ∨ E3 = 90) := ⟨hD.1⟩
  have hDD := Hd.mk hD.2
  have sX1 : shortP X1 := by have := polMul_short (o := o) (p := P) (q := Q); rwa [e1] at this
  have sX2 : shortP X2 := by have := polMul_short (o := o) (p := P) (q := R); rwa [e2] at this
  have sX3 : shortP X3 := by have := polMul_short (o := o) (p := P) (q := S2); rwa [e3] at this
  have sS : shortP S := polS.ints.short (by decide) (by omega)
  have sT : shortP S2 := polT.ints.short (by decide) (by omega)
  have sX4 : shortP X4 := by
    have := polAdd_short (o := o) (ps := [S, R]) (shortPs2 sS sR).2; rwa [e4] at this
  have sM : shortP (polMinus P) := (minus_ints hP.pol.ints).1.short (by decide) (by rw [show (polMinus P).length = P.length by simp [polMinus]]; omega)
  have eM := ring_minus hP
  have CM1 := Hd.mk (mul_call (b0 := w.heap.size) sP sQ e1)
  have CM2 := Hd.mk (mul_call (b0 := w.heap.size) sQ sP e1')
  have CM3 := Hd.mk (mul_call (b0 := w.heap.size) sP sR e2)
  have CM4 := Hd.mk (mul_call (b0 := w.heap.size) sP sT e3)
  have HADD := Hd.mk (And.intro eS1 (And.intro eS2 (And.intro e4 (And.intro e4' (And.intro eM eT1)))))
  have HSH := Hd.mk (And.intro sP (And.intro sQ (And.intro sR (And.intro sS (And.intro sM (And.intro sX1 (And.intro sX2 (And.intro sX3 sX4))))))))
  have CMI := Hd.mk (fun W A c (hb : w.heap.size ≤ W.heap.size) hr hc => rpol_Minus w.heap.size A c P W hb hr hc (by omega))
  obtain ⟨MP, hMP⟩ : ∃ MP, polMinus P = MP := ⟨_, rfl⟩
  rw [hMP] at CMI HSH HADD
  clear h h' h'' CM CM' CM'' ho hP hQ hR sP sQ sR eS1 eS2 polS lowS lenS linS eT1 eT2 polT lowT lenT linT e1 e2 e3 e4 e1' e4' hD sX1 sX2 sX3 sS sT sX4 sM eM hMP lp lq lr
  go_enter Tryz.func9, Tryz.ntmps9
  go_upto_region 2 with (fail)
  refine wp_gen (fun W => Bo1 w.heap.size w.heap.size w W 77 #[.slice SA ns.length sa, .slice SB ms.length sb, .slice SC ns'.length sc, .slice SD ms'.length sd, .slice SE ns''.length se, .slice SF ms''.length sf] ∧ Rg w.heap.size (w.heap.size + 1) o w W []) ⟨(Bo1.mk1 w _ _).al _, below2 w _ _, Nat.le_succ _, Nat.le_refl _, Bk.nw1 w _ _ _, AllP.nil⟩ ?_
  intro W hW
  have BX := Hd.mk hW.out.1
  have RG := Hd.mk hW.out.2
  clear hW
  generalize w.heap.size + 1 = g at RG ⊢
  obtain ⟨q0, q1, q2, q3, q4, q5⟩ := BX.out.k1.six
  have k0 := RG.out.k.one
  go_wp2_with fail
  clear q0 q1 q2 q3 q4 q5 k0
  refine (CP.out _ BX.out.below).mono ?_
  rintro e w1 ⟨A1, c1, rfl, hc1, hr, hb⟩
  have BX1 := Hd.mk (BX.out.up hb)
  have RG1 := Hd.mk ((RG.out.up hb).cons hr)
  clear hb hr
  obtain ⟨q0, q1, q2, q3, q4, q5⟩ := BX1.out.k1.six
  have k0 := RG1.out.k.one
  go_wp2_with fail
  clear q0 q1 q2 q3 q4 q5 k0
  refine (CQ.out _ BX1.out.below).mono ?_
  rintro e w2 ⟨A2, c2, rfl, hc2, hr, hb⟩
  have BX2 := Hd.mk (BX1.out.up hb)
  have RG2 := Hd.mk ((RG1.out.up hb).cons hr)
  clear hb hr
  obtain ⟨q0, q1, q2, q3, q4, q5⟩ := BX2.out.k1.six
  have k0 := RG2.out.k.one
  go_wp2_with fail
  clear q0 q1 q2 q3 q4 q5 k0
  refine (CR.out _ BX2.out.below).mono ?_
  rintro e w3 ⟨A3, c3, rfl, hc3, hr, hb⟩
  have RG3 := Hd.mk ((RG2.out.up hb).cons hr)
  clear hb hr BX BX1 BX2 RG RG1 RG2 CP CQ CR
  go_wp2_with fail
  refine (CS.out _).mono ?_
  rintro e w4 ⟨rfl, hb⟩
  have RG4 := Hd.mk (RG3.out.up hb)
  clear hb CS RG3
  have k0 := RG4.out.k.one
  go_wp2_with fail
  clear k0
  refine (CM1.out _ _ _ _ _ RG4.out.hb (RG4.out.at 2 rfl) hc1 (RG4.out.at 1 rfl) hc2).mono ?_
  rintro e w5 ⟨A5, c5, rfl, hc5, hr, hb⟩
  have RG5 := Hd.mk ((RG4.out.up hb).cons hr)
  clear hb hr RG4 CM1
  have k0 := RG5.out.k.one
  go_wp2_with fail
  clear k0
  refine (CM2.out _ _ _ _ _ RG5.out.hb (RG5.out.at 2 rfl) hc2 (RG5.out.at 3 rfl) hc1).mono ?_
  rintro e w6 ⟨A6, c6, rfl, hc6, hr, hb⟩
  have RG6 := Hd.mk ((RG5.out.up hb).cons hr)
  clear hb hr RG5 CM2
  go_wp2_with fail
  refine (same_call (RG6.out.at 1 rfl) hc5 HSH.out.2.2.2.2.2.1 (RG6.out.at 0 rfl) hc6).mono ?_
  rintro e w7 ⟨rfl, hb⟩
  have RG7 := Hd.mk (RG6.out.up hb)
  clear hb RG6
  go_wp2_with fail
  refine (law_add2 (shortPs2 HSH.out.1 HSH.out.2.1) HADD.out.1 RG7.out (RG7.out.at 4 rfl) (RG7.out.at 3 rfl) hc1 hc2).mono ?_
  rintro e w8 ⟨A8, c8, rfl, hc8, hr, hg, hb⟩
  have RG8 := Hd.mk (hg.cons hr)
  clear hb hr hg RG7
  go_wp2_with fail
  refine (law_add2 (shortPs2 HSH.out.2.1 HSH.out.1) HADD.out.2.1 RG8.out (RG8.out.at 4 rfl) (RG8.out.at 5 rfl) hc2 hc1).mono ?_
  rintro e w9 ⟨A9, c9, rfl, hc9, hr, hg, hb⟩
  have RG9 := Hd.mk (hg.cons hr)
  clear hb hr hg RG8
  go_wp2_with fail
  refine (same_call (RG9.out.at 1 rfl) hc8 HSH.out.2.2.2.1 (RG9.out.at 0 rfl) hc9).mono ?_
  rintro e w10 ⟨rfl, hb⟩
  have RG10 := Hd.mk (RG9.out.up hb)
  clear hb RG9
  go_wp2_with fail
  refine (law_add2 (shortPs2 HSH.out.1 HSH.out.2.1) HADD.out.1 RG10.out (RG10.out.at 6 rfl) (RG10.out.at 5 rfl) hc1 hc2).mono ?_
  rintro e w11 ⟨A11, c11, rfl, hc11, hr, hg, hb⟩
  have RG11 := Hd.mk (hg.cons hr)
  clear hb hr hg RG10
  go_wp2_with fail
  refine (law_add2 (shortPs2 HSH.out.2.2.2.1 HSH.out.2.2.1) HADD.out.2.2.1 RG11.out (RG11.out.at 0 rfl) (RG11.out.at 5 rfl) hc11 hc3).mono ?_
  rintro e w12 ⟨A12, c12, rfl, hc12, hr, hg, hb⟩
  have RG12 := Hd.mk (hg.cons hr)
  clear hb hr hg RG11
  go_wp2_with fail
  refine (law_add3 (shortPs3 HSH.out.1 HSH.out.2.1 HSH.out.2.2.1) HADD.out.2.2.2.1 RG12.out (RG12.out.at 8 rfl) (RG12.out.at 7 rfl) (RG12.out.at 6 rfl) hc1 hc2 hc3).mono ?_
  rintro e w13 ⟨A13, c13, rfl, hc13, hr, hg, hb⟩
  have RG13 := Hd.mk (hg.cons hr)
  clear hb hr hg RG12
  go_wp2_with fail
  refine (same_call (RG13.out.at 1 rfl) hc12 HSH.out.2.2.2.2.2.2.2.2 (RG13.out.at 0 rfl) hc13).mono ?_
  rintro e w14 ⟨rfl, hb⟩
  have RG14 := Hd.mk (RG13.out.up hb)
  clear hb RG13
  go_wp2_with fail
  refine (CMI.out _ _ _ RG14.out.hb (RG14.out.at 9 rfl) hc1).mono ?_
  rintro e w15 ⟨A15, c15, rfl, hc15, hr, hb⟩
  have RG15 := Hd.mk ((RG14.out.up hb).cons hr)
  clear hb hr RG14
  go_wp2_with fail
  refine (law_add2 (shortPs2 HSH.out.1 HSH.out.2.2.2.2.1) HADD.out.2.2.2.2.1 RG15.out (RG15.out.at 10 rfl) (RG15.out.at 0 rfl) hc1 hc15).mono ?_
  rintro e w16 ⟨A16, c16, rfl, hc16, hr, hg, hb⟩
  have RG16 := Hd.mk (hg.cons hr)
  clear hb hr hg RG15
  simp only [List.length_nil]
  have k0 := RG16.out.k.one
  go_wp2_with fail
  clear k0
  refine (CM3.out _ _ _ _ _ RG16.out.hb (RG16.out.at 11 rfl) hc1 (RG16.out.at 9 rfl) hc3).mono ?_
  rintro e w17 ⟨A17, c17, rfl, hc17, hr, hb⟩
  have RH := (RG16.out.up hb).cons hr
  have RG17 : Hd (Rg w.heap.size g o w w17 [(A17, X2), (A5, X1), (A3, R), (A2, Q), (A1, P)]) := ⟨⟨RH.below, RH.s, RH.b, RH.k, ((((AllP.nil.cons (RH.at 12 rfl)).cons (RH.at 11 rfl)).cons (RH.at 10 rfl)).cons (RH.at 9 rfl)).cons (RH.at 0 rfl)⟩⟩
  clear hb hr RH RG16
  have SO := Hd.mk (fun W (h : Rg w.heap.size g o w W [(A17, X2), (A5, X1), (A3, R), (A2, Q), (A1, P)]) => And.intro (Hd.mk h) h.k.one)
  go_wp2_with fail
  go_region_held3 (fun W => Hd (Rg w.heap.size g o w W [(A17, X2), (A5, X1), (A3, R), (A2, Q), (A1, P)]) ∧ W.cell? ⟨g, 0, none⟩ = some (.int .i64 o))
    (first
      | with_reducible exact SO.out _ RG17.out
      | with_reducible exact SO.out _ RG17.out.d1
      | with_reducible exact SO.out _ (RG17.out.al _).d1
      | with_reducible exact SO.out _ RG18.out
      | with_reducible exact SO.out _ RG19.out
      | fail)
    (first
      | (go_at_call 37; with_reducible refine (law_add2d (shortPs2 HSH.out.2.1 HSH.out.2.2.1) HADD.out.2.2.2.2.2 RG17.out (RG17.out.at 3 rfl) (RG17.out.at 2 rfl) hc2 hc3).mono ?_; rintro e w18 ⟨A18, c18, rfl, hc18, hr, hg, hb⟩
         have RG18 := Hd.mk hg
         have HR18 := Hd.mk hr)
      | (go_at_call 39; with_reducible refine (CM4.out _ _ _ _ _ RG18.out.hb (RG18.out.at 4 rfl) hc1 HR18.out hc18).mono ?_; rintro e w19 ⟨A19, c19, rfl, hc19, hr2, hb2⟩
         have RG19 := Hd.mk (RG18.out.up hb2)
         have HR19 := Hd.mk hr2))
  all_goals
    clear CM3 CM4 CMI SO RG17 HADD
    rcases hE1.out with e1 | e1
    · obtain ⟨a1, b1⟩ := code0 e1
      rcases hE2.out with e2 | e2
      · obtain ⟨a2, b2⟩ := code0 e2
        rcases hE3.out with e3 | e3
        · obtain ⟨a3, b3⟩ := code0 e3
          have HD := Hd.mk (hDD.out e1 e2 e3)
          clear e1 e2 e3
          have CF := Hd.mk (add_call' (b0 := w.heap.size) (shortPs2 HSH.out.2.2.2.2.2.1 HSH.out.2.2.2.2.2.2.1) HD.out)
          have k0 := RG19.out.k.one
          go_wp2_with fail
          clear k0
          refine (CF.out _ _ _ (RG19.out.al _).hb (rpols_bk2 (p := X1) (q := X2) (Bk.new_ _ _ _) ((RG19.out.at 1 rfl).up (below1 _ _)) ((RG19.out.at 0 rfl).up (below1 _ _)) hc5 hc17) (Nat.le_refl _)).mono ?_
          rintro e w20 ⟨A20, c20, rfl, hc20, hr20, hb20⟩
          have RG20 := Hd.mk ((RG19.out.al _).up hb20)
          have HR20 := Hd.mk hr20
          have HS20 := Hd.mk (HR19.out.up (goes (below1 _ _) hb20))
          clear hb20 hr20
          go_wp2_with fail
          refine (same_call HR20.out hc20 HSH.out.2.2.2.2.2.2.2.1 HS20.out hc19).mono ?_
          rintro e w21 ⟨rfl, hb21⟩
          have RG21 := Hd.mk (RG20.out.up hb21)
          clear hb21
          go_wp2_with fail
          go_ret
          exact ⟨by simp, RG21.out.below⟩
        · obtain ⟨a3, b3, d3⟩ := code90 e3
          clear e1 e2 e3
          go_wp2_with fail
          go_ret
          exact ⟨by simp, RG19.out.below⟩
      · obtain ⟨a2, b2, d2⟩ := code90 e2
        rcases hE3.out with e3 | e3
        · obtain ⟨a3, b3⟩ := code0 e3
          clear e1 e2 e3
          go_wp2_with fail
          go_ret
          exact ⟨by simp, RG19.out.below⟩
        · obtain ⟨a3, b3, d3⟩ := code90 e3
          clear e1 e2 e3
          go_wp2_with fail
          go_ret
          exact ⟨by simp, RG19.out.below⟩
    · obtain ⟨a1, b1, d1⟩ := code90 e1
      rcases hE2.out with e2 | e2
      · obtain ⟨a2, b2⟩ := code0 e2
        rcases hE3.out with e3 | e3
        · obtain ⟨a3, b3⟩ := code0 e3
          clear e1 e2 e3
          go_wp2_with fail
          go_ret
          exact ⟨by simp, RG19.out.below⟩
        · obtain ⟨a3, b3, d3⟩ := code90 e3
          clear e1 e2 e3
          go_wp2_with fail
          go_ret
          exact ⟨by simp, RG19.out.below⟩
      · obtain ⟨a2, b2, d2⟩ := code90 e2
        rcases hE3.out with e3 | e3
        · obtain ⟨a3, b3⟩ := code0 e3
          clear e1 e2 e3
          go_wp2_with fail
          go_ret
          exact ⟨by simp, RG19.out.below⟩
        · obtain ⟨a3, b3, d3⟩ := code90 e3
          clear e1 e2 e3
          go_wp2_with fail
          go_ret
          exact ⟨by simp, RG19.out.below⟩
end Go.Proofs.YtidjbiopneoeeaaGreat
