/- Parts of the proof, joined: what each says stands at its head. -/
import Derived.Test.YtjanagclahkfdaaGreatM32
import Derived.Test.YtjanagclahkfdaaGreatM21
import Derived.Test.YtjanagclahkfdaaGreatM33
import Derived.Test.YtjanagclahkfdaaGreatM29
import Derived.Test.YtjanagclahkfdaaGreatM22
import Derived.Test.YtjanagclahkfdaaGreatM04
import Derived.Deep.QuietTactic
import Derived.PlainAid
set_option linter.unusedVariables false
set_option linter.unusedSimpArgs false
set_option maxHeartbeats 24000000
set_option maxRecDepth 100000
namespace Go.Proofs.YtjanagclahkfdaaGreat
open Go.RowKit
theorem same_list (b0 : Nat) (L M : Option Addr) (cl cm : Nat) (l m : List (List TermD)) (w : World) (h : RPols w b0 L l) (hs : shortPs l) (h' : RPols w b0 M m) (hs' : shortPs m) :
    Calls Tryz.prog 19 #[.slice L l.length cl, .slice M m.length cm] w fun e w' => e = .returned (.bool (decide (l = m))) ∧ Below w.heap.size w w' := by
 have hl := hs.1
 have hm := hs'.1
 have HP := Hd.mk h
 have HS := Hd.mk hs
 have HP' := Hd.mk h'
 have HS' := Hd.mk hs'
 clear h hs h' hs'
 by_cases hlen : l.length = m.length
 ·have e1 : ((l.length : Int) != (m.length : Int)) = false := by rw [bne_eq_false_iff_eq]; omega
  have HLn := Hd.mk hlen
  clear hlen
  go_enter Tryz.func19, Tryz.ntmps19
  go_wp2_with fail
  go_loopw [5] (fun v wr => ∃ i : Nat, v = .int .i64 i ∧ i ≤ l.length ∧ Hd (Below w.heap.size w wr) ∧ Hd (l.take i = m.take i)) (fun v _ => l.length - (intOf v).toNat)
  case atStart => exact ⟨0, rfl, by omega, ⟨.refl _ _⟩, ⟨rfl⟩⟩
  case round =>
   obtain ⟨i, rfl, hi, hb, ha⟩ := hrel
   by_cases hlt : i < l.length
   ·have hlt2 : i < m.length := by have := HLn.out; omega
    have i1 : (i : Int) < l.length := by omega
    have i2 : (i : Int) < m.length := by omega
    have i3 : (0 : Int) ≤ i := by omega
    obtain ⟨la, a, pc, p, rfl, -, hti, hcell, hpc, hrp⟩ := (HP.out.up hb.out).get hlt
    obtain ⟨ma, b, qc, q, rfl, -, hti', hcell', hqc, hrq⟩ := (HP'.out.up hb.out).get hlt2
    have HG : Hd (l[i] = p ∧ m[i] = q) := ⟨by
     have e1 := hti.out; have e2 := hti'.out
     rw [List.getElem?_eq_getElem hlt] at e1; rw [List.getElem?_eq_getElem hlt2] at e2
     exact ⟨Option.some.inj e1, Option.some.inj e2⟩⟩
    have HN := Hd.mk (show p ≠ q → decide (l = m) = false from fun hne => decide_eq_false fun e => hne (by rw [← HG.out.1, ← HG.out.2]; subst e; rfl))
    have HQ := Hd.mk (show p = q → l.take (i + 1) = m.take (i + 1) from fun e => by
     rw [List.take_succ_eq_append_getElem hlt, List.take_succ_eq_append_getElem hlt2, ha.out, HG.out.1, HG.out.2, e])
    have CS := Hd.mk (fun W (hB : Below wr.heap.size wr W) => rpol_Same b0 a b pc qc p q W (hrp.out.up hB) hpc (HS.out.2 _ (List.mem_of_getElem? hti.out)) (hrq.out.up hB) hqc (HS'.out.2 _ (List.mem_of_getElem? hti'.out)))
    have SO := Hd.mk (fun W (hB : Below wr.heap.size wr W) => And.intro (Hd.mk hB) (And.intro (cell_up hcell hB) (cell_up hcell' hB)))
    obtain ⟨E, hE⟩ : ∃ E, decide (p = q) = E := ⟨_, rfl⟩
    rw [hE] at CS
    have HEQ := Hd.mk hE
    clear hti hti' hrp hrq HG hE
    cases E
    ·have HF := Hd.mk (HN.out (of_decide_eq_false HEQ.out))
     go_wp2_with fail
     go_region_held3 (fun W => Hd (Below wr.heap.size wr W) ∧ W.cell? (la.add i) = some (.slice a p.length pc) ∧ W.cell? (ma.add i) = some (.slice b q.length qc))
      (first
       | with_reducible exact SO.out _ (.refl _ _)
       | with_reducible exact SO.out _ (Below.refl _ _).drew
       | with_reducible exact SO.out _ hB5
       | fail)
      (first
       | (go_at_call 20; have hB := ‹Hd (Below wr.heap.size wr _) ∧ _›.1; with_reducible refine (CS.out _ hB.out).mono ?_; rintro e w5 ⟨rfl, hb5⟩
          have hB5 := hB.out.trans (hb5.mono hB.out.size)))
     all_goals
      go_wp2_with fail
      go_ret
      exact ⟨retBool HF.out.symm, goes hb.out hB5⟩
    ·have HF := Hd.mk (HQ.out (of_decide_eq_true HEQ.out))
     go_wp2_with fail
     go_region_held3 (fun W => Hd (Below wr.heap.size wr W) ∧ W.cell? (la.add i) = some (.slice a p.length pc) ∧ W.cell? (ma.add i) = some (.slice b q.length qc))
      (first
       | with_reducible exact SO.out _ (.refl _ _)
       | with_reducible exact SO.out _ (Below.refl _ _).drew
       | with_reducible exact SO.out _ hB5
       | fail)
      (first
       | (go_at_call 20; have hB := ‹Hd (Below wr.heap.size wr _) ∧ _›.1; with_reducible refine (CS.out _ hB.out).mono ?_; rintro e w5 ⟨rfl, hb5⟩
          have hB5 := hB.out.trans (hb5.mono hB.out.size)))
     all_goals
      go_wp2_with fail
      go_roundw
      case measure => first | (simp [intOf]; done) | (simp [intOf]; omega)
      case rel => exact ⟨i + 1, by go_num, by omega, ⟨goes hb.out hB5⟩, HF⟩
   ·obtain rfl : i = l.length := by omega
    have HF : Hd (l = m) := ⟨by have := ha.out; rwa [List.take_length, HLn.out, List.take_length] at this⟩
    go_wp2_with fail
    go_ret
    exact ⟨retBool (decide_eq_true HF.out).symm, hb.out⟩
 ·have e1 : ((l.length : Int) != (m.length : Int)) = true := by rw [bne_iff_ne]; omega
  have HLn := Hd.mk hlen
  clear hlen
  go_enter Tryz.func19, Tryz.ntmps19
  go_wp2_with fail
  go_ret
  exact ⟨retBool (decide_eq_false fun e => HLn.out (by rw [e])).symm, .refl _ _⟩
theorem own_bk1 {w : World} {g base : Nat} {v : Value} (hk : Bk w g 23 #[v]) (hb : base ≤ g) : w.ownsRow base 23 1 (.slice (some ⟨g, 0, none⟩) 1 1) 1 [v] :=
 ⟨rfl, .inr ⟨g, 1, #[v], rfl, hb, hk, Nat.le_refl _, by decide, rfl, rfl⟩⟩
def Light (p : List TermD) (l : List (List TermD)) : Prop := l.length ≤ 6 ∧ ∀ q ∈ p :: l, q.length ≤ 12 ∧ ∀ t ∈ q, t.c.num.length ≤ 1 ∧ t.c.den.length ≤ 1
def HeavyPost (p : List TermD) (l : List (List TermD)) (w : World) (e : Ending) (w' : World) : Prop := ∃ b, e = .returned (.bool b) ∧ (b = false → Light p l) ∧ Below w.heap.size w w'
theorem law12_heavy (b0 : Nat) (A L : Option Addr) (c cl : Nat) (p : List TermD) (l : List (List TermD)) (w : World) (hb0 : b0 ≤ w.heap.size) (h : RPol w b0 A p) (hc : p.length ≤ c) (hpm : p.length ≤ maxLen) (hL : RPols w b0 L l) (hlm : l.length ≤ maxLen) :
    Calls Tryz.prog 14 #[.slice A p.length c, .slice L l.length cl] w (HeavyPost p l w) := by
 unfold maxLen at hpm hlm
 have HP := Hd.mk h
 have HL := Hd.mk hL
 have HB0 := Hd.mk hb0
 clear h hL hb0
 by_cases h6 : 6 < l.length
 ·go_enter Tryz.func14, Tryz.ntmps14
  go_wp2_with fail
  go_ret
  exact ⟨true, rfl, fun h => (by cases h), .refl _ _⟩
 by_cases h12 : 12 < p.length
 ·go_enter Tryz.func14, Tryz.ntmps14
  go_wp2_with fail
  go_ret
  exact ⟨true, rfl, fun h => (by cases h), .refl _ _⟩
 obtain ⟨news, n1, n2⟩ := HL.out
 have HO := Hd.mk (own_bk1 (base := w.heap.size) (Bk.new_ w 23 #[.slice A p.length c]) (Nat.le_refl _))
 have HN1 := Hd.mk (n1.up (below1 w (.cells #[.slice A p.length c] 23)))
 have HN2 := Hd.mk n2
 have one : Hd (∀ u ∈ news, u.oneCell' = true) := ⟨fun u hu => by
  obtain ⟨j, hj⟩ := List.mem_iff_getElem?.1 hu
  have hlen : news.length = l.length := by have := n1.1; omega
  have hjl : j < l.length := by have := (List.getElem?_eq_some_iff.1 hj).1; omega
  obtain ⟨a, d, e, -, -⟩ := n2 j _ (List.getElem?_eq_getElem hjl)
  rw [hj] at e
  injection e with e
  subst e
  rfl⟩
 obtain ⟨i0, hi0, hz0, hz1, hz2⟩ := info_split Tryz.infPoly
 clear n1 n2
 go_enter Tryz.func14, Tryz.ntmps14
 go_wp2_with (at_builtin; refine wpList_append_rd2 _ rfl _ _ 24 24 rfl w.heap.size 23 i0 _ 1 24 Tryz.slPolys Tryz.slPolys hi0 hz0 hz1 hz2 rfl (by decide) _ 1 _ rfl HO.out _ L l.length cl news rfl HN1.out one.out (by unfold maxLen; omega) (by omega) (by simp) ?_)
 intro v' w' hown hg hat
 have HB2 : Hd (Below w.heap.size w w') := ⟨(below1 w _).grown hg (by simp) (fun k hk => by simp only [Value.ownBlock, Option.some.injEq] at hk; omega)⟩
 have hall : Hd (∃ V cV, v' = .slice V (p :: l).length cV ∧ RPols w' b0 V (p :: l)) := ⟨by
  obtain ⟨V, cV, hV⟩ : ∃ V cV, v' = .slice V (p :: l).length cV := by
   rcases hown.2 with ⟨_, h0⟩ | ⟨g, cap, cur, e, _⟩
   ·omega
   ·exact ⟨_, cap, by rw [e]; congr 1; simp; omega⟩
  subst hV
  refine ⟨V, cV, rfl, [Value.slice A p.length c] ++ news, ?_, ?_⟩
  ·have h2 := Rd.of_own (c := cV) (by rw [show 1 + l.length = (p :: l).length by simp; omega] at hown; exact hown)
   exact h2
  ·intro j q hj
   cases j with
   | zero =>
     simp only [List.getElem?_cons_zero, Option.some.injEq] at hj
     subst hj
     exact ⟨A, c, rfl, hc, HP.out.up HB2.out⟩
   | succ j =>
     obtain ⟨a, d, e, hd, hr⟩ := HN2.out j q (by simpa using hj)
     exact ⟨a, d, by simpa using e, hd, hr.up HB2.out⟩⟩
 obtain ⟨V, cV, rfl, hV⟩ := hall.out
 have HV := Hd.mk hV
 clear hown hg hat hall hV HO HN1 HN2 one hi0 hz0 hz1 hz2
 obtain ⟨P, hP⟩ : ∃ P, p :: l = P := ⟨_, rfl⟩
 have HPE := Hd.mk hP
 have HPL : Hd (P.length ≤ 7) := ⟨by rw [← hP]; simp; omega⟩
 rw [hP] at HV ⊢
 clear hP
 have hP7 := HPL.out
 go_wp2_with fail
 go_loop [6] (fun v => ∃ i : Nat, v = .int .i64 i ∧ i ≤ P.length ∧ Hd (∀ q ∈ P.take i, q.length ≤ 12 ∧ ∀ t ∈ q, t.c.num.length ≤ 1 ∧ t.c.den.length ≤ 1)) (fun v => P.length - (intOf v).toNat)
 case atStart => exact ⟨0, rfl, by omega, ⟨fun q h => by simp at h⟩⟩
 case round =>
  obtain ⟨i, rfl, hi, ha⟩ := hrel
  by_cases hlt : i < P.length
  ·have i1 : (i : Int) < P.length := by omega
   have i3 : (0 : Int) ≤ i := by omega
   obtain ⟨va, a, pc, q, rfl, -, hti, hcell, hpc, hrq⟩ := HV.out.get hlt
   have e1 : P[i] = q := by have := hti.out; rw [List.getElem?_eq_getElem hlt] at this; injection this
   by_cases hq12 : 12 < q.length
   ·have hq12' : (12 : Int) < q.length := by omega
    go_wp2_with fail
    go_ret
    exact ⟨true, rfl, fun h => (by cases h), HB2.out⟩
   have hq12' : ¬ (12 : Int) < q.length := by omega
   have HN : Hd ((∀ t ∈ q, t.c.num.length ≤ 1 ∧ t.c.den.length ≤ 1) → ∀ q ∈ P.take (i + 1), q.length ≤ 12 ∧ ∀ t ∈ q, t.c.num.length ≤ 1 ∧ t.c.den.length ≤ 1) := ⟨fun h x hx => by
    rw [List.take_succ_eq_append_getElem hlt, e1, List.mem_append] at hx
    rcases hx with hx | hx
    ·exact ha.out x hx
    ·simp only [List.mem_cons, List.not_mem_nil, or_false] at hx
     subst hx
     exact ⟨by omega, h⟩⟩
   clear e1 hti
   go_wp2_with fail
   go_loop [7] (fun v => ∃ j : Nat, v = .int .i64 j ∧ j ≤ q.length ∧ Hd (∀ t ∈ q.take j, t.c.num.length ≤ 1 ∧ t.c.den.length ≤ 1)) (fun v => q.length - (intOf v).toNat)
   case atStart => exact ⟨0, rfl, by omega, ⟨fun q h => by simp at h⟩⟩
   case round =>
    obtain ⟨j, rfl, hj, hb⟩ := hrel
    by_cases hjt : j < q.length
    ·have j1 : (j : Int) < q.length := by omega
     have j3 : (0 : Int) ≤ j := by omega
     obtain ⟨ad, B1, c1, B2, c2, t, rfl, -, ht, -, -, q1, q2, -, -, -, -⟩ := hrq.out.get hjt
     have e2 : q[j] = t := by have := ht.out; rw [List.getElem?_eq_getElem hjt] at this; injection this
     have HM : Hd ((t.c.num.length ≤ 1 ∧ t.c.den.length ≤ 1) → ∀ t ∈ q.take (j + 1), t.c.num.length ≤ 1 ∧ t.c.den.length ≤ 1) := ⟨fun h x hx => by
      rw [List.take_succ_eq_append_getElem hjt, e2, List.mem_append] at hx
      rcases hx with hx | hx
      ·exact hb.out x hx
      ·simp only [List.mem_cons, List.not_mem_nil, or_false] at hx
       subst hx
       exact h⟩
     clear e2 ht
     by_cases hn : 1 < t.c.num.length
     ·have hn' : (1 : Int) < t.c.num.length := by omega
      go_wp2_with fail
      go_ret
      exact ⟨true, rfl, fun h => (by cases h), HB2.out⟩
     have hn' : ¬ (1 : Int) < t.c.num.length := by omega
     by_cases hd : 1 < t.c.den.length
     ·have hd' : (1 : Int) < t.c.den.length := by omega
      go_wp2_with fail
      go_ret
      exact ⟨true, rfl, fun h => (by cases h), HB2.out⟩
     have hd' : ¬ (1 : Int) < t.c.den.length := by omega
     have HM2 := Hd.mk (HM.out ⟨by omega, by omega⟩)
     go_wp2_with fail
     go_round
     case measure => first | (simp [intOf]; done) | (simp [intOf]; omega)
     case rel => exact ⟨j + 1, by go_num, by omega, HM2⟩
    ·obtain rfl : j = q.length := by omega
     have HM := Hd.mk (HN.out (by have := hb.out; rwa [List.take_length] at this))
     go_wp2_with fail
     go_round
     case measure => first | (simp [intOf]; done) | (simp [intOf]; omega)
     case rel => exact ⟨i + 1, by go_num, by omega, HM⟩
  ·obtain rfl : i = P.length := by omega
   have HT : Hd (Light p l) := ⟨by omega, by have := ha.out; rw [List.take_length, ← HPE.out] at this; exact this⟩
   go_wp2_with fail
   go_ret
   exact ⟨false, rfl, fun _ => HT.out, HB2.out⟩
theorem splitF_short {o : Int} {l : List (List TermD)} (hsl : shortPs l) : ∀ (n : Nat) (p : List TermD) (qs : List (List TermD)) (r : List TermD) (k : Nat), shortP p → qs.length ≤ 10000 → (∀ q ∈ qs, q.length ≤ 60 ∧ shorts q) → r.length ≤ 60 → shorts r →
    shortPs (splitF o l n p qs r k).2.1 ∧ shortP (splitF o l n p qs r k).2.2
 | 0, _, _, _, _, _, _, _, _, _ => ⟨⟨by simp [splitF], fun q h => by simp [splitF] at h⟩, shortP_nil⟩
 | n + 1, [], qs, r, k, _, hql, hq, hr, hrs => ⟨⟨hql, fun q h => ⟨Nat.le_trans (hq q h).1 (by omega), (hq q h).2⟩⟩, ⟨by show r.length ≤ _; omega, hrs⟩⟩
 | n + 1, t :: p, qs, r, k, hp, hql, hq, hr, hrs => by
   have hbad : ∀ e : Int, shortPs ((e, ([] : List (List TermD)), ([] : List TermD)) : Int × List (List TermD) × List TermD).2.1 ∧ shortP ((e, ([] : List (List TermD)), ([] : List TermD)) : Int × List (List TermD) × List TermD).2.2 := fun e => ⟨⟨by simp, fun q h => by cases h⟩, shortP_nil⟩
   have hp' : shortP p := ⟨by have := hp.1; simp at this; omega, fun s hs => hp.2 s (List.mem_cons_of_mem _ hs)⟩
   unfold splitF
   cases hd : dividesD l t.m with
   | none =>
     simp only
     split
     ·exact hbad _
     ·refine splitF_short hsl n p qs (r ++ [t]) k hp' hql hq (by simp; omega) (fun s hs => ?_)
      rcases List.mem_append.1 hs with h | h
      ·exact hrs s h
      ·simp only [List.mem_cons, List.not_mem_nil, or_false] at h
       rw [h]; exact hp.2 t (by simp)
   | some x =>
     obtain ⟨i, m⟩ := x
     simp only
     obtain ⟨u, b, hi, _⟩ := dividesD_lt hd
     have e1 : l.getD i [] = u :: b := by rw [List.getD_eq_getElem?_getD, hi]; rfl
     have hb : shortP (l.getD i []) := by rw [e1]; exact hsl.2 _ (List.mem_of_getElem? hi)
     have hqi : shortP (qs.getD i []) := by
      rw [List.getD_eq_getElem?_getD]
      cases h : qs[i]? with
      | none => exact shortP_nil
      | some q => exact ⟨Nat.le_trans (hq q (List.mem_of_getElem? h)).1 (by omega), (hq q (List.mem_of_getElem? h)).2⟩
     have hs := moveD_shorts (o := o) (k := k) (m := m) hp hb hqi
     split
     ·exact hbad _
     ·rename_i h0
      refine splitF_short hsl n _ _ r (k + 1) hs.1 (by rw [List.length_set]; exact hql) (fun q' hq' => ?_) hr hrs
      rcases List.mem_or_eq_of_mem_set hq' with h | h
      ·exact hq _ h
      ·rw [h]
       exact ⟨moveD_len (by simpa using h0), hs.2⟩
theorem splitD_short {o : Int} {p : List TermD} {l : List (List TermD)} (hp : shortP p) (hl : shortPs l) : shortPs (splitD o p l).2.1 ∧ shortP (splitD o p l).2.2 := by
 unfold splitD
 split
 ·exact ⟨⟨by simp, fun q h => by cases h⟩, shortP_nil⟩
 ·refine splitF_short hl _ p _ [] 0 hp (by rw [List.length_replicate]; exact hl.1) (fun q hq => ?_) (by simp) (fun s h => by cases h)
  rw [(List.mem_replicate.1 hq).2]
  exact ⟨by simp, fun s h => by cases h⟩
theorem Light.short {p : List TermD} {l : List (List TermD)} (h : Light p l) : shortP p ∧ shortPs l := by
 have key : ∀ q ∈ p :: l, shortP q := fun q hq => ⟨Nat.le_trans (h.2 q hq).1 (by omega), fun t ht => by
  have := (h.2 q hq).2 t ht
  exact ⟨by omega, by omega⟩⟩
 exact ⟨key p (by simp), Nat.le_trans h.1 (by omega), fun q hq => key q (List.mem_cons_of_mem _ hq)⟩
section
variable {P : Program} {ops : Array Oper} {Q : Exit → Act → World → Prop} {md : Region.Mode} {n : Nat}
theorem wpAnyX_true : ∀ (fuel : Nat) (listed : Array Bool) (a : Act) (w : World), wpAny P md ops Q fuel listed a w → wpAnyX P md ops Q (fun _ => True) n fuel listed a w
 | 0, _, _, _, h => h
 | fuel + 1, _, _, _, h => ⟨h.1, fun i hi => wpOp_mono (fun a' w' h' => ⟨fun _ => trivial, wpAnyX_true fuel _ a' w' h'⟩) (h.2 i hi)⟩
def midB (ops : Array Oper) : Bool :=
 let l0 := Array.replicate ops.size false
 let l1 := l0.setIfInBounds 0 true
 let l2 := l1.setIfInBounds 2 true
 let l3 := l2.setIfInBounds 1 true
 Region.noSelect ops && decide (3 ≤ ops.size) && Region.free .any ops l0 0 && (Region.ready .any ops l0).contains 0 && Region.free .any ops l1 2 && (Region.ready .any ops l1).contains 2 && decide (Region.ready .any ops l2 = [1]) && Region.lexFrom .any ops (ops.size - 3) 3 l3
theorem wp_region_mid {id : Nat} {a : Act} {w : World} {o0 o1 o2 : Oper} {l : List Oper} (hm : P.follows .mixedOrders = true) (hB : midB (o0 :: o1 :: o2 :: l).toArray = true) (hQ : ∀ c a d v w, Q (.panic c) (a.put d v) w → Q (.panic c) a w) (v0 v2 : Value) (hg : o1.guard = none)
    (h0 : YieldsIf P (o0 :: o1 :: o2 :: l).toArray (fun _ => True) o0 v0 a) (h2 : YieldsIf P (o0 :: o1 :: o2 :: l).toArray (fun _ => True) o2 v2 (a.put o0.dst v0))
    (h1 : ∀ K : Act → World → Prop, (∀ a' w', (∃ C : World → Prop, C w' ∧ wpQuiet P (o0 :: o1 :: o2 :: l).toArray C (fun a'' => ∀ w'', C w'' → Q .normal a'' w'') l a') → K a' w') → o1.wp P ((a.put o0.dst v0).put o2.dst v2) w.drew K Q) :
    (Code.region id (o0 :: o1 :: o2 :: l).toArray true).wp P Q a w := by
 unfold midB at hB
 simp only [Bool.and_eq_true, decide_eq_true_eq, List.contains_iff_mem] at hB
 obtain ⟨⟨⟨⟨⟨⟨⟨hsel, hsz⟩, f0⟩, r0⟩, f2⟩, r2⟩, r1⟩, hlex⟩ := hB
 have hsize : (o0 :: o1 :: o2 :: l).toArray.size = l.length + 3 := by simp
 refine wp_region_any hm (wpAny_of_X (S := fun _ => True) (n := (o0 :: o1 :: o2 :: l).toArray.size) _ _ _ _ ?_)
 have e0 : (o0 :: o1 :: o2 :: l).toArray[0]? = some o0 := by simp
 have e1 : (o0 :: o1 :: o2 :: l).toArray[1]? = some o1 := by simp
 have e2 : (o0 :: o1 :: o2 :: l).toArray[2]? = some o2 := by simp
 refine (show wpAnyX P _ _ _ _ _ (l.length + 3) _ _ _ from ?_)
 refine wpAnyX_first e0 (Region.noSelect_spec hsel) (fun c a w h => hQ c a _ _ w h) (fun j hj hj2 => absurd hj2 (Nat.not_lt.2 hj)) (l.length + 2) _ a w.drew (Region.free_spec e0 f0) r0 h0 trivial ?_
 refine wpAnyX_first e2 (Region.noSelect_spec hsel) (fun c a w h => hQ c a _ _ w h) (fun j hj hj2 => absurd hj2 (Nat.not_lt.2 hj)) (l.length + 1) _ _ _ (Region.free_spec e2 f2) r2 h2 trivial ?_
 refine wpAnyX_true _ _ _ _ ⟨fun h => (by rw [r1] at h; cases h), fun i hi => ?_⟩
 rw [r1, List.mem_singleton] at hi
 subst hi
 unfold wpOp
 simp only [e1, Region.wanted, hg, if_true]
 refine .inl (h1 _ fun a' w' hC => ?_)
 obtain ⟨C, hw, hq⟩ := hC
 refine wpAny_of_quiet (C := C) (Q := fun a'' => ∀ w'', C w'' → Q .normal a'' w'') (fun a'' w'' hw'' h => h w'' hw'') _ _ _ _ hw ?_
 exact wpAnyQ_lex hsel l 3 _ _ (fun j => by simp [Nat.add_comm 3 j]) (by simpa using hlex) hq
end
end Go.Proofs.YtjanagclahkfdaaGreat
namespace Go.Proofs.YtjanagclahkfdaaGreat
open Go.RowKit Go.PlainAid
theorem gb_trans {w w' w'' : World} {row : Option Nat} (h : w.grownBy w' row) (k : w'.grownBy w'' row) : w.grownBy w'' row :=
 ⟨k.os.trans h.os, k.tape.trans h.tape, k.output.trans h.output, Nat.le_trans h.size k.size, fun b hb hne => (k.block b (Nat.lt_of_lt_of_le hb h.size) hne).trans (h.block b hb hne)⟩
theorem gb_of {w w' : World} {row : Option Nat} (h : Below w.heap.size w w') : w.grownBy w' row := ⟨h.os, h.tape, h.output, h.size, fun b hb _ => h.block b hb⟩
theorem gb_dn {w w' : World} {row : Option Nat} (h : w.grownBy w' row) (n : Nat) : w.grownBy (w'.drewN n) row := ⟨h.os, h.tape, h.output, h.size, h.block⟩
def tx (s : ByteArray) (at_ : Nat) (bad : Bool) : Array Value := #[.string s, .int .i64 at_, .bool bad]
def skipF (s : ByteArray) : Nat → Nat → Nat
 | 0, k => k
 | n + 1, k => if k < s.size ∧ bt s k = 32 then skipF s n (k + 1) else k
def skipD (s : ByteArray) (k : Nat) : Nat := skipF s (s.size - k) k
theorem skipF_ge (s : ByteArray) : ∀ (n k : Nat), k ≤ skipF s n k ∧ skipF s n k ≤ max k s.size
 | 0, k => ⟨Nat.le_refl _, by simp [skipF]; omega⟩
 | n + 1, k => by
   unfold skipF
   split
   ·rename_i h
    have := skipF_ge s n (k + 1)
    omega
   ·omega
theorem skipD_le {s : ByteArray} {k : Nat} (h : k ≤ s.size) : skipD s k ≤ s.size := by have := (skipF_ge s (s.size - k) k).2; unfold skipD; omega
theorem skipD_go {s : ByteArray} {k : Nat} (h : k < s.size) (hb : bt s k = 32) : skipD s k = skipD s (k + 1) := by
 unfold skipD
 rw [show s.size - k = (s.size - (k + 1)) + 1 by omega]
 conv => lhs; unfold skipF
 rw [if_pos ⟨h, hb⟩]
theorem skipD_end {s : ByteArray} {k : Nat} (h : ¬ (k < s.size ∧ bt s k = 32)) : skipD s k = k := by
 unfold skipD
 cases s.size - k with
 | zero => rfl
 | succ n => exact if_neg h
theorem text_skip (s : ByteArray) (k g : Nat) (bad : Bool) (w : World) (hk : Bk w g 131 (tx s k bad)) (hs : s.size ≤ maxLen) (hks : k ≤ s.size) :
    Calls Tryz.prog 173 #[.pointer (some ⟨g, 0, none⟩)] w fun e w' => e = .returned (.tuple #[]) ∧ Bk w' g 131 (tx s (skipD s k) bad) ∧ w.grownBy w' (some g) := by
 unfold maxLen at hs
 have HK := Hd.mk hk
 clear hk
 go_enter Tryz.func173, Tryz.ntmps173
 go_wp2_with fail
 go_loopg [5] (s.size - k) (fun n _ wr => ∃ i : Nat, n = s.size - i ∧ i ≤ s.size ∧ Hd (Bk wr g 131 (tx s i bad)) ∧ Hd (w.grownBy wr (some g)) ∧ Hd (skipD s k = skipD s i))
 case atStart => exact ⟨k, rfl, hks, HK, ⟨gb_of (Below.refl _ _)⟩, ⟨rfl⟩⟩
 case round =>
  obtain ⟨i, hn, hi, HB, HG, HE⟩ := hrel
  obtain ⟨q0, q1, q2⟩ := HB.out.three
  have fz := fun i => HB.out.froz i
  by_cases hlt : i < s.size
  ·have i1 : (i : Int) < s.size := by omega
   have i0 : (0 : Int) ≤ i := by omega
   have hb := get_bt s i hlt
   by_cases h32 : bt s i = 32
   ·have e1 : (bt s i == 32) = true := by rw [h32]; rfl
    have HN := Hd.mk (HE.out.trans (skipD_go hlt h32))
    clear h32
    go_wp2_with fail
    go_quiet (fail)
    go_wp2_with fail
    go_roundg (s.size - (i + 1))
    case measure => omega
    case rel => exact ⟨i + 1, rfl, by omega, ⟨(HB.out.dn nq).set_ 1 _⟩, ⟨(gb_dn HG.out nq).set 1 _⟩, HN⟩
   ·have e1 : (bt s i == 32) = false := by rw [beq_eq_false_iff_ne]; exact h32
    have HN := Hd.mk (HE.out.trans (skipD_end (fun h => h32 h.2)))
    clear h32
    go_wp2_with fail
    go_quiet (fail)
    go_wp2_with fail
    go_end0
    rw [HN.out]
    exact ⟨rfl, HB.out.dn nq, gb_dn HG.out nq⟩
  ·have i1 : ¬ (i : Int) < s.size := by omega
   have HN := Hd.mk (HE.out.trans (skipD_end (fun h => hlt h.1)))
   go_wp2_with fail
   go_quiet (fail)
   go_wp2_with fail
   go_end0
   rw [HN.out]
   exact ⟨rfl, HB.out.dn nq, gb_dn HG.out nq⟩
theorem text_next (s : ByteArray) (k g : Nat) (bad : Bool) (w : World) (hk : Bk w g 131 (tx s k bad)) (hs : s.size ≤ maxLen) (hks : k ≤ s.size) :
    Calls Tryz.prog 144 #[.pointer (some ⟨g, 0, none⟩)] w fun e w' => e = .returned (.int .u8 (bt s (skipD s k))) ∧ Bk w' g 131 (tx s (skipD s k) bad) ∧ w.grownBy w' (some g) := by
 have CS := Hd.mk (text_skip s k g bad w hk hs hks)
 unfold maxLen at hs
 have hle := skipD_le hks
 obtain ⟨i, hi⟩ : ∃ i, skipD s k = i := ⟨_, rfl⟩
 rw [hi] at CS hle ⊢
 clear hk hi hks
 go_enter Tryz.func144, Tryz.ntmps144
 go_wp2_with fail
 refine CS.out.mono ?_
 rintro e w2 ⟨rfl, hB, hG⟩
 have HB := Hd.mk hB
 have HG := Hd.mk hG
 obtain ⟨q0, q1, q2⟩ := hB.three
 clear CS hB hG
 by_cases hlt : i < s.size
 ·have i1 : (i : Int) < s.size := by omega
  have i0 : (0 : Int) ≤ i := by omega
  have hb := get_bt s i hlt
  go_wp2_with fail
  go_quiet (fail)
  go_wp2_with fail
  go_quiet (fail)
  go_wp2_with fail
  go_ret
  exact ⟨rfl, (HB.out.dn _).dn _, gb_dn (gb_dn HG.out _) _⟩
 ·have i1 : ¬ (i : Int) < s.size := by omega
  have hb := bt_end s (Nat.le_of_not_lt hlt)
  go_wp2_with fail
  go_quiet (fail)
  go_wp2_with fail
  go_ret
  rw [hb]
  exact ⟨rfl, HB.out.dn _, gb_dn HG.out _⟩
def eatB (s : ByteArray) (k : Nat) (c : Int) : Bool := bt s (skipD s k) == c && decide (skipD s k < s.size)
def eatK (s : ByteArray) (k : Nat) (c : Int) : Nat := if eatB s k c = true then skipD s k + 1 else skipD s k
theorem eatK_le {s : ByteArray} {k : Nat} {c : Int} (h : k ≤ s.size) : eatK s k c ≤ s.size := by
 have := skipD_le h
 unfold eatK
 split
 ·rename_i h2
  unfold eatB at h2
  simp only [Bool.and_eq_true, decide_eq_true_eq] at h2
  omega
 ·exact this
theorem text_eat (s : ByteArray) (k g : Nat) (bad : Bool) (c : Int) (w : World) (hk : Bk w g 131 (tx s k bad)) (hs : s.size ≤ maxLen) (hks : k ≤ s.size) :
    Calls Tryz.prog 143 #[.pointer (some ⟨g, 0, none⟩), .int .u8 c] w fun e w' => e = .returned (.bool (eatB s k c)) ∧ Bk w' g 131 (tx s (eatK s k c) bad) ∧ w.grownBy w' (some g) := by
 have CS := Hd.mk (fun W (hW : Bk W g 131 (tx s k bad)) => text_next s k g bad W hW hs hks)
 have HK := Hd.mk hk
 unfold maxLen at hs
 have hle := skipD_le hks
 obtain ⟨B, hB⟩ : ∃ B, eatB s k c = B := ⟨_, rfl⟩
 obtain ⟨KK, hK⟩ : ∃ KK, eatK s k c = KK := ⟨_, rfl⟩
 have HB := Hd.mk hB
 have HKK := Hd.mk hK
 rw [hB, hK]
 unfold eatK at HKK
 rw [hB] at HKK
 unfold eatB at HB
 obtain ⟨i, hi⟩ : ∃ i, skipD s k = i := ⟨_, rfl⟩
 rw [hi] at CS hle HB HKK
 clear hk hi hks hB hK
 by_cases hc : bt s i = c
 ·by_cases hlt : i < s.size
  ·have i1 : ¬ (s.size : Int) ≤ i := by omega
   have e1 : (bt s i != c) = false := by rw [bne_eq_false_iff_eq]; exact hc
   have hBt : Hd (B = true) := ⟨by rw [← HB.out, hc, decide_eq_true hlt]; simp⟩
   have hKt : Hd (KK = i + 1) := ⟨by rw [← HKK.out, hBt.out]; exact if_pos rfl⟩
   clear hc HB HKK
   go_enter Tryz.func143, Tryz.ntmps143
   go_wp2_with fail
   refine wp_region_mid (by kernel_rfl) (by kernel_rfl) (fun c a d v w h => by cases d <;> exact h) (.pointer (some ⟨g, 0, none⟩)) (.int .u8 c) rfl (Or.inl ⟨by rfl, fun W _ => by go_simp; try with_reducible rfl⟩) (Or.inl ⟨by rfl, fun W _ => by go_simp; try with_reducible rfl⟩) ?_
   intro K hK
   simp only [Act.put, List.setIfInBounds_toArray, List.set_cons_zero, List.set_cons_succ]
   go_simp
   refine (CS.out _ HK.out.d1).mono ?_
   rintro e w2 ⟨rfl, hb2, hG⟩
   have HB2 := Hd.mk hb2
   have HG := Hd.mk hG
   obtain ⟨q0, q1, q2⟩ := hb2.three
   refine hK _ _ ⟨fun W => ∃ n, W = w2.drewN n, ⟨0, rfl⟩, ?_⟩
   clear hK K hb2 hG CS
   repeat (go_big_quiet_step (fail))
   refine wpQuiet_nil fun W hW => ?_
   obtain ⟨nq, rfl⟩ := hW
   have fz := fun i => HB2.out.froz i
   go_wp2_with fail
   go_ret
   rw [hBt.out, hKt.out]
   exact ⟨rfl, (HB2.out.dn nq).set_ 1 _, gb_trans (gb_dn (gb_of (Below.refl _ _)) 1) ((gb_dn HG.out nq).set 1 _)⟩
  ·have i1 : (s.size : Int) ≤ i := by omega
   have e1 : (bt s i != c) = false := by rw [bne_eq_false_iff_eq]; exact hc
   have hBt : Hd (B = false) := ⟨by rw [← HB.out, decide_eq_false hlt, Bool.and_false]⟩
   have hKt : Hd (KK = i) := ⟨by rw [← HKK.out, hBt.out]; exact if_neg (by simp)⟩
   clear hc HB HKK
   go_enter Tryz.func143, Tryz.ntmps143
   go_wp2_with fail
   refine wp_region_mid (by kernel_rfl) (by kernel_rfl) (fun c a d v w h => by cases d <;> exact h) (.pointer (some ⟨g, 0, none⟩)) (.int .u8 c) rfl (Or.inl ⟨by rfl, fun W _ => by go_simp; try with_reducible rfl⟩) (Or.inl ⟨by rfl, fun W _ => by go_simp; try with_reducible rfl⟩) ?_
   intro K hK
   simp only [Act.put, List.setIfInBounds_toArray, List.set_cons_zero, List.set_cons_succ]
   go_simp
   refine (CS.out _ HK.out.d1).mono ?_
   rintro e w2 ⟨rfl, hb2, hG⟩
   have HB2 := Hd.mk hb2
   have HG := Hd.mk hG
   obtain ⟨q0, q1, q2⟩ := hb2.three
   refine hK _ _ ⟨fun W => ∃ n, W = w2.drewN n, ⟨0, rfl⟩, ?_⟩
   clear hK K hb2 hG CS
   repeat (go_big_quiet_step (fail))
   refine wpQuiet_nil fun W hW => ?_
   obtain ⟨nq, rfl⟩ := hW
   go_wp2_with fail
   go_ret
   rw [hBt.out, hKt.out]
   exact ⟨rfl, HB2.out.dn nq, gb_trans (gb_dn (gb_of (Below.refl _ _)) 1) (gb_dn HG.out nq)⟩
 ·have e1 : (bt s i != c) = true := by rw [bne_iff_ne]; exact hc
  have hBt : Hd (B = false) := ⟨by rw [← HB.out, beq_eq_false_iff_ne.2 hc, Bool.false_and]⟩
  have hKt : Hd (KK = i) := ⟨by rw [← HKK.out, hBt.out]; exact if_neg (by simp)⟩
  clear hc HB HKK
  go_enter Tryz.func143, Tryz.ntmps143
  go_wp2_with fail
  refine wp_region_mid (by kernel_rfl) (by kernel_rfl) (fun c a d v w h => by cases d <;> exact h) (.pointer (some ⟨g, 0, none⟩)) (.int .u8 c) rfl (Or.inl ⟨by rfl, fun W _ => by go_simp; try with_reducible rfl⟩) (Or.inl ⟨by rfl, fun W _ => by go_simp; try with_reducible rfl⟩) ?_
  intro K hK
  simp only [Act.put, List.setIfInBounds_toArray, List.set_cons_zero, List.set_cons_succ]
  go_simp
  refine (CS.out _ HK.out.d1).mono ?_
  rintro e w2 ⟨rfl, hb2, hG⟩
  have HB2 := Hd.mk hb2
  have HG := Hd.mk hG
  obtain ⟨q0, q1, q2⟩ := hb2.three
  refine hK _ _ ⟨fun W => ∃ n, W = w2.drewN n, ⟨0, rfl⟩, ?_⟩
  clear hK K hb2 hG CS
  repeat (go_big_quiet_step (fail))
  refine wpQuiet_nil fun W hW => ?_
  obtain ⟨nq, rfl⟩ := hW
  go_wp2_with fail
  go_ret
  rw [hBt.out, hKt.out]
  exact ⟨rfl, HB2.out.dn nq, gb_trans (gb_dn (gb_of (Below.refl _ _)) 1) (gb_dn HG.out nq)⟩
theorem ref_digit (c : Int) (w : World) :
    Calls Tryz.prog 198 #[.int .u8 c] w fun e w' => e = .returned (.bool (decide (48 ≤ c) && decide (c ≤ 57))) ∧ w = w' := by
 by_cases h1 : (48 : Int) ≤ c
 ·by_cases h2 : c ≤ 57
  ·have e : (decide (48 ≤ c) && decide (c ≤ 57)) = true := by rw [decide_eq_true h1, decide_eq_true h2]; rfl
   rw [e]
   clear e
   go_enter Tryz.func198, Tryz.ntmps198
   go_wp2_with fail
   go_ret
   exact ⟨rfl, rfl⟩
  ·have e : (decide (48 ≤ c) && decide (c ≤ 57)) = false := by rw [decide_eq_false h2, Bool.and_false]
   rw [e]
   clear e
   go_enter Tryz.func198, Tryz.ntmps198
   go_wp2_with fail
   go_ret
   exact ⟨rfl, rfl⟩
 ·have e : (decide (48 ≤ c) && decide (c ≤ 57)) = false := by rw [decide_eq_false h1, Bool.false_and]
  rw [e]
  clear e
  go_enter Tryz.func198, Tryz.ntmps198
  go_wp2_with fail
  go_ret
  exact ⟨rfl, rfl⟩
def varD (c : Int) : Int := if c = 120 then 0 else if c = 121 then 1 else if c = 122 then 2 else if c = 119 then 3 else -1
theorem ref_variable (c : Int) (w : World) :
    Calls Tryz.prog 189 #[.int .u8 c] w fun e w' => e = .returned (.int .i64 (varD c)) ∧ w = w' := by
 have n0 : (((⟨#[120, 121, 122, 119]⟩ : ByteArray)[0]'(by decide)).toNat : Int) = 120 := rfl
 have n1 : (((⟨#[120, 121, 122, 119]⟩ : ByteArray)[1]'(by decide)).toNat : Int) = 121 := rfl
 have n2 : (((⟨#[120, 121, 122, 119]⟩ : ByteArray)[2]'(by decide)).toNat : Int) = 122 := rfl
 have n3 : (((⟨#[120, 121, 122, 119]⟩ : ByteArray)[3]'(by decide)).toNat : Int) = 119 := rfl
 obtain ⟨V, hV⟩ : ∃ V, varD c = V := ⟨_, rfl⟩
 rw [hV]
 have HV := Hd.mk hV
 unfold varD at HV
 clear hV
 go_enter Tryz.func189, Tryz.ntmps189
 go_wp2_with fail
 go_loop [3] (fun v => ∃ i : Nat, v = .int .i64 i ∧ i ≤ 4 ∧ Hd (0 < i → c ≠ 120) ∧ Hd (1 < i → c ≠ 121) ∧ Hd (2 < i → c ≠ 122) ∧ Hd (3 < i → c ≠ 119)) (fun v => 4 - (intOf v).toNat)
 case atStart => exact ⟨0, rfl, by omega, ⟨fun h => by omega⟩, ⟨fun h => by omega⟩, ⟨fun h => by omega⟩, ⟨fun h => by omega⟩⟩
 case round =>
  obtain ⟨i, rfl, hi, h0, h1, h2, h3⟩ := hrel
  rcases (show i = 0 ∨ i = 1 ∨ i = 2 ∨ i = 3 ∨ i = 4 by omega) with rfl | rfl | rfl | rfl | rfl
  ·by_cases hc : c = 120
   ·have e : ((120 : Int) == c) = true := by rw [hc]; rfl
    have HT : Hd (V = 0) := ⟨by rw [← HV.out, if_pos hc]⟩
    clear hc
    go_wp2_with fail
    go_ret
    rw [HT.out]
    exact ⟨rfl, rfl⟩
   ·have e : ((120 : Int) == c) = false := by rw [beq_eq_false_iff_ne]; exact fun h => hc h.symm
    have HC := Hd.mk hc
    clear hc
    go_wp2_with fail
    go_round
    case measure => first | (simp [intOf]; done) | (simp [intOf]; omega)
    case rel => exact ⟨1, rfl, by omega, ⟨fun _ => HC.out⟩, ⟨fun h => by omega⟩, ⟨fun h => by omega⟩, ⟨fun h => by omega⟩⟩
  ·by_cases hc : c = 121
   ·have e : ((121 : Int) == c) = true := by rw [hc]; rfl
    have HT : Hd (V = 1) := ⟨by rw [← HV.out, if_neg (h0.out (by omega)), if_pos hc]⟩
    clear hc
    go_wp2_with fail
    go_ret
    rw [HT.out]
    exact ⟨rfl, rfl⟩
   ·have e : ((121 : Int) == c) = false := by rw [beq_eq_false_iff_ne]; exact fun h => hc h.symm
    have HC := Hd.mk hc
    clear hc
    go_wp2_with fail
    go_round
    case measure => first | (simp [intOf]; done) | (simp [intOf]; omega)
    case rel => exact ⟨2, rfl, by omega, ⟨fun _ => h0.out (by omega)⟩, ⟨fun _ => HC.out⟩, ⟨fun h => by omega⟩, ⟨fun h => by omega⟩⟩
  ·by_cases hc : c = 122
   ·have e : ((122 : Int) == c) = true := by rw [hc]; rfl
    have HT : Hd (V = 2) := ⟨by rw [← HV.out, if_neg (h0.out (by omega)), if_neg (h1.out (by omega)), if_pos hc]⟩
    clear hc
    go_wp2_with fail
    go_ret
    rw [HT.out]
    exact ⟨rfl, rfl⟩
   ·have e : ((122 : Int) == c) = false := by rw [beq_eq_false_iff_ne]; exact fun h => hc h.symm
    have HC := Hd.mk hc
    clear hc
    go_wp2_with fail
    go_round
    case measure => first | (simp [intOf]; done) | (simp [intOf]; omega)
    case rel => exact ⟨3, rfl, by omega, ⟨fun _ => h0.out (by omega)⟩, ⟨fun _ => h1.out (by omega)⟩, ⟨fun _ => HC.out⟩, ⟨fun h => by omega⟩⟩
  ·by_cases hc : c = 119
   ·have e : ((119 : Int) == c) = true := by rw [hc]; rfl
    have HT : Hd (V = 3) := ⟨by rw [← HV.out, if_neg (h0.out (by omega)), if_neg (h1.out (by omega)), if_neg (h2.out (by omega)), if_pos hc]⟩
    clear hc
    go_wp2_with fail
    go_ret
    rw [HT.out]
    exact ⟨rfl, rfl⟩
   ·have e : ((119 : Int) == c) = false := by rw [beq_eq_false_iff_ne]; exact fun h => hc h.symm
    have HC := Hd.mk hc
    clear hc
    go_wp2_with fail
    go_round
    case measure => first | (simp [intOf]; done) | (simp [intOf]; omega)
    case rel => exact ⟨4, rfl, by omega, ⟨fun _ => h0.out (by omega)⟩, ⟨fun _ => h1.out (by omega)⟩, ⟨fun _ => h2.out (by omega)⟩, ⟨fun _ => HC.out⟩⟩
  ·have HT : Hd (V = -1) := ⟨by rw [← HV.out, if_neg (h0.out (by omega)), if_neg (h1.out (by omega)), if_neg (h2.out (by omega)), if_neg (h3.out (by omega))]⟩
   go_wp2_with fail
   go_ret
   rw [HT.out]
   exact ⟨rfl, rfl⟩
end Go.Proofs.YtjanagclahkfdaaGreat
