/- Parts of the proof, joined: what each says stands at its head. -/
import Derived.Test.YtjanagclahkfdaaGreatM26
import Derived.Test.YtjanagclahkfdaaGreatM22
import Derived.Test.YtjanagclahkfdaaGreatM21
set_option linter.unusedVariables false
set_option linter.unusedSimpArgs false
set_option maxHeartbeats 24000000
set_option maxRecDepth 100000
namespace Go.Proofs.YtjanagclahkfdaaGreat
open Go.RowKit
def xM : MonD := ⟨1, 0, 0, 0⟩
def yM : MonD := ⟨0, 1, 0, 0⟩
theorem ofD_small {n : Int} (h : n.natAbs < 18446744073709551616) : GoodR (ofD n) := ofD_good (Nat.lt_of_lt_of_le h (by decide))
theorem ofD_num {n : Int} (h : n ≠ 0) : (ofD n).num.length ≠ 0 := fun e => by
 have := limbs_nil.1 (List.eq_nil_of_length_eq_zero (show (limbs n.natAbs).length = 0 from e))
 omega
theorem ofD_short (n : Int) (h : n.natAbs < 18446744073709551616) : (ofD n).short := by
 obtain ⟨h1, h2, _⟩ := ratMay_of (ofD_small h).may
 have := natMay_len h1
 have := natMay_len h2
 exact ⟨by omega, by omega⟩
theorem right_int {n : Int} {m : MonD} (h : n.natAbs < 18446744073709551616) (hm : monMay m = true) : right ⟨ofD n, m⟩ = true := by
 unfold right
 rw [(ofD_small h).may, hm]; rfl
theorem shown_eval : polAdd 0 [[⟨ofD 1, xM⟩, ⟨ofD 1, yM⟩], [⟨ofD (-1), yM⟩]] = (0, [⟨ofD 1, xM⟩]) := by
 have hx : monMay xM = true := by decide
 have hy : monMay yM = true := by decide
 have r1 := right_int (n := 1) (by decide) hx
 have r2 := right_int (n := 1) (by decide) hy
 have r3 := right_int (n := -1) (by decide) hy
 have n1 : (ofD 1).num.length ≠ 0 := ofD_num (by decide)
 have n3 : (ofD (-1)).num.length ≠ 0 := ofD_num (by decide)
 have n0 : (ofD 0).num.length = 0 := by show (limbs 0).length = 0; rw [limbs_zero]; rfl
 have cxy : monCmp 0 xM yM = 1 := by decide
 have cyy : monCmp 0 yM yM = 0 := by decide
 have p1 : polMay 0 [⟨ofD 1, xM⟩, ⟨ofD 1, yM⟩] = true := by
  unfold polMay
  simp only [List.length_cons, List.length_nil, show List.range (0 + 1 + 1) = [0, 1] from rfl, List.all_cons, List.all_nil]
  rw [okAt_of (t := ⟨ofD 1, xM⟩) rfl, okAt_of (t := ⟨ofD 1, yM⟩) rfl]
  unfold right at r1 r2
  simp only [Bool.and_eq_true] at r1 r2
  simp [r1.1, r1.2, r2.2, n1, cxy, ordered]
 have p2 : polMay 0 [⟨ofD (-1), yM⟩] = true := by
  unfold polMay
  simp only [List.length_cons, List.length_nil, show List.range (0 + 1) = [0] from rfl, List.all_cons, List.all_nil]
  rw [okAt_of (t := ⟨ofD (-1), yM⟩) rfl]
  unfold right at r3
  simp only [Bool.and_eq_true] at r3
  simp [r3.1, r3.2, n3, ordered]
 have hadd : addD (ofD 1) (ofD (-1)) = (0, ofD 0) := addD_int (by decide) (by decide)
 have hne : xM ≠ yM := by decide
 unfold polAdd
 rw [show [[⟨ofD 1, xM⟩, ⟨ofD 1, yM⟩], [⟨ofD (-1), yM⟩]].all (polMay 0) = true by simp [p1, p2], if_neg (by simp)]
 have hput : putAll 0 [] [⟨ofD 1, xM⟩, ⟨ofD 1, yM⟩, ⟨ofD (-1), yM⟩] = (0, [⟨ofD 1, xM⟩, ⟨ofD 0, yM⟩]) := by
  simp [putAll, putD, hasM, insD, hne, cxy, getM, setM, hadd]
 unfold polMake
 rw [show ([[⟨ofD 1, xM⟩, ⟨ofD 1, yM⟩], [⟨ofD (-1), yM⟩]] : List (List TermD)).flatten = [⟨ofD 1, xM⟩, ⟨ofD 1, yM⟩, ⟨ofD (-1), yM⟩] from rfl, hput]
 have hodd : anyOdd [⟨ofD 1, xM⟩, ⟨ofD 1, yM⟩, ⟨ofD (-1), yM⟩] = false := by unfold anyOdd; simp [r1, r2, r3]
 rw [hodd]
 simp [ordered, nz, n1, n0]
section
variable {W : World} {b0 g : Nat}
theorem Rd.of_bk {t : TypeId} {cs : Array Value} (h : Bk W g t cs) (n sz : Nat) (hs : cs.size = n * sz) : Rd W W.heap.size sz (some ⟨g, 0, none⟩) n cs.toList := by
 refine ⟨by simpa using hs, fun _ => ⟨_, rfl, h.lt, fun j u hu => ?_⟩⟩
 rw [show ((⟨g, 0, none⟩ : Addr).add j) = ⟨g, j, none⟩ by rw [add_win, Nat.zero_add], h.cell]
 simpa using hu
theorem tc_of {s : TermD} {A B : Option Addr} {c d : Nat} (h : RTerm W b0 (.agg (s.v A c B d)) s) : TC W b0 s (s.v A c B d).toList := by
 obtain ⟨x1, x2, x3, x4, e, y1, y2, y3, y4⟩ := h
 simp only [TermD.v, Value.agg.injEq, Array.mk.injEq, List.cons.injEq, Value.slice.injEq, true_and, and_true] at e
 obtain ⟨⟨rfl, rfl⟩, rfl, rfl⟩ := e
 exact ⟨_, _, _, _, rfl, y1, y2, y3, y4⟩
theorem rpol_bk1 {t : TypeId} {s : TermD} {A B : Option Addr} {c d : Nat} (hk : Bk W g t (s.v A c B d)) (h : RTerm W b0 (.agg (s.v A c B d)) s) : RPol W b0 (some ⟨g, 0, none⟩) [s] :=
 ⟨_, Rd.of_bk hk 1 7 rfl, by simpa using TCs.cons (tc_of h) .nil⟩
theorem rpol_bk2 {t : TypeId} {s s' : TermD} {A B A' B' : Option Addr} {c d c' d' : Nat} (hk : Bk W g t (s.v A c B d ++ s'.v A' c' B' d')) (h : RTerm W b0 (.agg (s.v A c B d)) s) (h' : RTerm W b0 (.agg (s'.v A' c' B' d')) s') : RPol W b0 (some ⟨g, 0, none⟩) [s, s'] :=
 ⟨_, Rd.of_bk hk 2 7 rfl, by
  have := TCs.cons (tc_of h) (TCs.cons (tc_of h') .nil)
  simpa using this⟩
theorem rpols_bk2 {t : TypeId} {p q : List TermD} {A B : Option Addr} {c d : Nat} (hk : Bk W g t #[.slice A p.length c, .slice B q.length d]) (h : RPol W b0 A p) (h' : RPol W b0 B q) (hc : p.length ≤ c) (hd : q.length ≤ d) : RPols W b0 (some ⟨g, 0, none⟩) [p, q] := by
 refine ⟨_, Rd.of_bk hk 2 1 rfl, fun j r hj => ?_⟩
 match j, hj with
 | 0, hj => injection hj with hj; subst hj; exact ⟨_, _, rfl, hc, h⟩
 | 1, hj => injection hj with hj; subst hj; exact ⟨_, _, rfl, hd, h'⟩
 | n + 2, hj => cases hj
end
theorem Bo2.al {S g1 g2 : Nat} {w0 w : World} {t1 t2 : TypeId} {c1 c2 : Array Value} (h : Bo2 S g1 g2 w0 w t1 t2 c1 c2) (o : Obj) : Bo2 S g1 g2 w0 (w.alloc o) t1 t2 c1 c2 := h.up ((Below.refl _ _).alloc (Nat.le_refl _) _)
theorem Bk.nw1 (w : World) (o : Obj) (t : TypeId) (cs : Array Value) : Bk ((w.alloc o).alloc (.cells cs t)) (w.heap.size + 1) t cs := by simpa using Bk.new_ (w.alloc o) t cs
theorem Bk.nw2 (w : World) (o o2 : Obj) (t : TypeId) (cs : Array Value) : Bk (((w.alloc o).alloc o2).alloc (.cells cs t)) (w.heap.size + 1 + 1) t cs := by simpa using Bk.new_ ((w.alloc o).alloc o2) t cs
theorem below1 (w : World) (o : Obj) : Below w.heap.size w (w.alloc o) := (Below.refl _ _).alloc (Nat.le_refl _) _
theorem below2 (w : World) (o o2 : Obj) : Below w.heap.size w ((w.alloc o).alloc o2) := (below1 w o).alloc (by simp) _
theorem below3 (w : World) (o o2 o3 : Obj) : Below w.heap.size w (((w.alloc o).alloc o2).alloc o3) := (below2 w o o2).alloc (by simp; omega) _
abbrev tv (r : RatD) (A : Option Addr) (c : Nat) (B : Option Addr) (d : Nat) (a b : Int) : Array Value := #[.bool r.neg, .slice A r.num.length c, .slice B r.den.length d, .int .i64 a, .int .i64 b, .int .i64 0, .int .i64 0]
theorem add_call {W : World} {b0 gA gB gP c1 d1 c2 d2 c3 d3 : Nat} {P Q : RatD} {A1 B1 A2 B2 A3 B3 : Option Addr} (hPQ : ofD 1 = P ∧ ofD (-1) = Q)
    (hA : Bk W gA 53 #[.bool P.neg, .slice A1 P.num.length c1, .slice B1 P.den.length d1, .int .i64 1, .int .i64 0, .int .i64 0, .int .i64 0, .bool P.neg, .slice A2 P.num.length c2, .slice B2 P.den.length d2, .int .i64 0, .int .i64 1, .int .i64 0, .int .i64 0])
    (hB : Bk W gB 53 #[.bool Q.neg, .slice A3 Q.num.length c3, .slice B3 Q.den.length d3, .int .i64 0, .int .i64 1, .int .i64 0, .int .i64 0])
    (hP : Bk W gP 23 #[.slice (some ⟨gA, 0, none⟩) 2 2, .slice (some ⟨gB, 0, none⟩) 1 1])
    (h1 : RTerm W b0 (.agg (tv P A1 c1 B1 d1 1 0)) ⟨P, xM⟩) (h2 : RTerm W b0 (.agg (tv P A2 c2 B2 d2 0 1)) ⟨P, yM⟩) (h3 : RTerm W b0 (.agg (tv Q A3 c3 B3 d3 0 1)) ⟨Q, yM⟩) (hb : b0 ≤ W.heap.size) :
    Calls Tryz.prog 68 #[.int .i64 0, .slice (some ⟨gP, 0, none⟩) 2 2] W fun e w' => ∃ A' c', e = .returned (.tuple #[.slice A' 1 c', .int .i64 0]) ∧ 1 ≤ c' ∧ RPol w' b0 A' [⟨P, xM⟩] ∧ Below W.heap.size W w' := by
 obtain ⟨rfl, rfl⟩ := hPQ
 have r1 : RPol W b0 (some ⟨gA, 0, none⟩) [⟨ofD 1, xM⟩, ⟨ofD 1, yM⟩] := rpol_bk2 (t := 53) (A := A1) (B := B1) (c := c1) (d := d1) (A' := A2) (B' := B2) (c' := c2) (d' := d2) hA h1 h2
 have r2 : RPol W b0 (some ⟨gB, 0, none⟩) [⟨ofD (-1), yM⟩] := rpol_bk1 (t := 53) (A := A3) (B := B3) (c := c3) (d := d3) hB h3
 have rp := rpols_bk2 (p := [⟨ofD 1, xM⟩, ⟨ofD 1, yM⟩]) (q := [⟨ofD (-1), yM⟩]) hP r1 r2 (by decide) (by decide)
 have hs1 := ofD_short 1 (by decide)
 have hs3 := ofD_short (-1) (by decide)
 have := poly_Add b0 0 (some ⟨gP, 0, none⟩) 2 [[⟨ofD 1, xM⟩, ⟨ofD 1, yM⟩], [⟨ofD (-1), yM⟩]] W hb rp (by decide) ⟨by decide, fun p hp => by
  simp only [List.mem_cons, List.not_mem_nil, or_false] at hp
  rcases hp with rfl | rfl
  ·exact ⟨by decide, fun t ht => by
     simp only [List.mem_cons, List.not_mem_nil, or_false] at ht
     rcases ht with rfl | rfl <;> exact hs1⟩
  ·exact ⟨by decide, fun t ht => by
     simp only [List.mem_cons, List.not_mem_nil, or_false] at ht
     rcases ht with rfl
     exact hs3⟩⟩
 rw [shown_eval] at this
 exact this
theorem putD_short {o : Int} {al : List TermD} {t : TermD} (h : ∀ s ∈ al, s.c.short) (ht : t.c.short) : (∀ s ∈ (putD o al t).2, s.c.short) ∧ (putD o al t).2.length ≤ al.length + 1 := by
 unfold putD
 split
 ·split
  ·exact ⟨fun s (hs : s ∈ []) => (by cases hs), Nat.zero_le _⟩
  ·refine ⟨fun s hs => ?_, by unfold setM; simp⟩
   unfold setM at hs
   rw [List.mem_map] at hs
   obtain ⟨p, hp, e⟩ := hs
   split at e
   ·subst e; exact addD_short _ _
   ·subst e; exact h p hp
 ·refine ⟨fun s hs => ?_, by rw [insD_len]; exact Nat.le_refl _⟩
  rcases mem_insD.1 hs with rfl | hs
  ·exact ht
  ·exact h s hs
theorem polMake_odd {o : Int} {ts : List TermD} {i : Nat} {t : TermD} (h : ts[i]? = some t) (hr : right t = false) : polMake o ts = (1, []) := by
 unfold polMake
 rw [if_pos]
 have : anyOdd ts = true := by
  unfold anyOdd
  rw [List.any_eq_true]
  exact ⟨t, List.mem_of_getElem? h, by rw [hr]; rfl⟩
 rw [this]; simp
theorem rpol_MakeF (b0 : Nat) (order : Int) (A : Option Addr) (c : Nat) (ts : List TermD) (w : World) (hb0 : b0 ≤ w.heap.size) (h : RPol w b0 A ts) (hc : ts.length ≤ c) (h9 : ts.length ≤ 50000) (hs : shortP ts) :
    Calls Tryz.prog 55 #[.int .i64 order, .slice A ts.length c] w fun e w' => ∃ A' c', e = .returned (.tuple #[.slice A' (polMake order ts).2.length c', .int .i64 (polMake order ts).1]) ∧
     (polMake order ts).2.length ≤ c' ∧ RPol w' b0 A' (polMake order ts).2 ∧ Below w.heap.size w w' ∧ Fr w.heap.size A' := by
 have HP := Hd.mk h
 have HS := Hd.mk hs
 have HB0 := Hd.mk hb0
 have CO := Hd.mk (rpol_ordered order w)
 clear h hs hb0
 obtain ⟨E, hE⟩ : ∃ E, polMake order ts = E := ⟨_, rfl⟩
 rw [hE]
 have HE := Hd.mk hE
 clear hE
 obtain ⟨ob, hob⟩ : ∃ ob, ordered order = ob := ⟨_, rfl⟩
 rw [hob] at CO
 have HO := Hd.mk hob
 clear hob
 cases ob
 ·have HF : Hd (E = (1, [])) := ⟨by rw [← HE.out]; unfold polMake; rw [HO.out]; rfl⟩
  go_enter Tryz.func55, Tryz.ntmps55
  go_wp2_with fail
  refine CO.out.mono ?_
  rintro e w2 ⟨rfl, rfl⟩
  go_wp2_with fail
  go_ret2
  rw [HF.out]
  exact ⟨none, 0, rfl, Nat.le_refl _, RPol.nil _ _ _, .refl _ _, Fr.none _⟩
 go_enter Tryz.func55, Tryz.ntmps55
 go_wp2_with fail
 refine CO.out.mono ?_
 rintro e w2 ⟨rfl, rfl⟩
 clear CO
 go_wp2_with fail
 go_loopw [6] (fun v wr => ∃ i : Nat, v = .int .i64 i ∧ i ≤ ts.length ∧ Hd (Below w.heap.size w wr) ∧ Hd (∀ s ∈ ts.take i, right s = true)) (fun v _ => ts.length - (intOf v).toNat)
 case atStart => exact ⟨0, rfl, by omega, ⟨.refl _ _⟩, ⟨by simp⟩⟩
 case round =>
  obtain ⟨i, rfl, hi, hb, ha⟩ := hrel
  by_cases hlt : i < ts.length
  ·have i1 : (i : Int) < ts.length := by omega
   have i3 : (0 : Int) ≤ i := by omega
   obtain ⟨ad, B1, c1, B2, c2, t, rfl, hab, ht, hrt, q0, q1, q2, q3, q4, q5, q6⟩ := (HP.out.up hb.out).get hlt
   obtain ⟨k0, k1, k2, k3, k4, k5, k6⟩ := Wd.at7 q0 q1 q2 q3 q4 q5 q6
   have hst := HS.out.2 t (List.mem_of_getElem? ht.out)
   have C1 := Hd.mk (rrat_May b0 _ t.c wr hrt.out.rat hst)
   have C2 := Hd.mk (rmon_May t.m)
   have HR : Hd (right t = (ratMay t.c && monMay t.m)) := ⟨rfl⟩
   have HG : Hd (right t = true → ∀ s ∈ ts.take (i + 1), right s = true) := ⟨fun hr s hs => by
    have e1 : ts[i] = t := by have := ht.out; rw [List.getElem?_eq_getElem hlt] at this; injection this
    rw [List.take_succ_eq_append_getElem hlt, e1, List.mem_append, List.mem_singleton] at hs
    rcases hs with hs | rfl
    ·exact ha.out s hs
    ·exact hr⟩
   have HN := Hd.mk (fun hr => HE.out.symm.trans (polMake_odd (o := order) ht.out hr))
   clear hst ht q3 q4 q5 q6
   cases hm1 : ratMay t.c
   ·rw [hm1] at C1
    have HF := Hd.mk (HN.out (by rw [HR.out, hm1]; rfl))
    clear hm1
    go_wp2_with fail
    refine C1.out.mono ?_
    rintro e w3 ⟨rfl, hb3⟩
    have HB3 := Hd.mk (goes hb.out hb3)
    clear hb3
    go_wp2_with fail
    go_ret2
    rw [HF.out]
    exact ⟨none, 0, rfl, Nat.le_refl _, RPol.nil _ _ _, HB3.out, Fr.none _⟩
   rw [hm1] at C1 HR
   clear hm1
   go_wp2_with fail
   refine C1.out.mono ?_
   rintro e w3 ⟨rfl, hb3⟩
   have HB3 := Hd.mk (goes hb.out hb3)
   have k3 := k3 ⟨w3, hb3⟩
   have k4 := k4 ⟨w3, hb3⟩
   have k5 := k5 ⟨w3, hb3⟩
   have k6 := k6 ⟨w3, hb3⟩
   simp only [Wd.w] at k3 k4 k5 k6
   clear hb3 k0 k1 k2 C1 q0 q1 q2
   cases hm2 : monMay t.m
   ·rw [hm2] at C2
    have HF := Hd.mk (HN.out (by rw [HR.out, hm2]; rfl))
    clear hm2
    go_wp2_with fail
    refine (C2.out _).mono ?_
    rintro e w4 ⟨rfl, hb4⟩
    have HB4 := Hd.mk (goes HB3.out hb4)
    clear hb4
    go_wp2_with fail
    go_ret2
    rw [HF.out]
    exact ⟨none, 0, rfl, Nat.le_refl _, RPol.nil _ _ _, HB4.out, Fr.none _⟩
   ·rw [hm2] at C2
    have HF := Hd.mk (HG.out (by rw [HR.out, hm2]; rfl))
    clear hm2
    go_wp2_with fail
    refine (C2.out _).mono ?_
    rintro e w4 ⟨rfl, hb4⟩
    have HB4 := Hd.mk (goes HB3.out hb4)
    clear hb4
    go_wp2_with fail
    go_roundw
    case measure => first | (simp [intOf]; done) | (simp [intOf]; omega)
    case rel => exact ⟨i + 1, by go_num, by omega, HB4, HF⟩
  ·obtain rfl : i = ts.length := by omega
   have HR : Hd (∀ s ∈ ts, right s = true) := ⟨by have := ha.out; rwa [List.take_length] at this⟩
   have HE2 : Hd (E = if (putAll order [] ts).1 ≠ 0 then ((putAll order [] ts).1, []) else if 60 < ((putAll order [] ts).2.filter nz).length then (90, []) else (0, (putAll order [] ts).2.filter nz)) := ⟨by
    rw [← HE.out]
    unfold polMake
    have : anyOdd ts = false := by
     unfold anyOdd
     rw [List.any_eq_false]
     intro s hs
     rw [HR.out s hs]; simp
    rw [HO.out, this, if_neg (by simp)]⟩
   have HOK := Hd.mk (ordered_ok.1 HO.out)
   clear ha HE
   go_upto_region 9 with (fail)
   refine wp_gen (fun W => Below w.heap.size w W ∧ RPol W b0 (some ⟨wr.heap.size, 0, none⟩) []) ⟨hb.out.alloc hb.out.size _, RPol.nil _ _ _⟩ ?_
   intro W0 hW
   have HB := Hd.mk hW.out.1
   have H0 := Hd.mk hW.out.2
   clear hW hb
   generalize wr.heap.size = g0 at H0 ⊢
   go_wp2_with fail
   go_loopw [7, 8] (fun v7 v8 wr => ∃ (i : Nat) (al : List TermD) (A' : Option Addr) (c' : Nat), v8 = .int .i64 i ∧ v7 = .slice A' al.length c' ∧ i ≤ ts.length ∧ al.length ≤ i ∧ al.length ≤ c' ∧ Hd (RPol wr b0 A' al) ∧ Hd (Sta order al ∧ ∀ s ∈ al, s.c.short) ∧ Hd (putAll order al (ts.drop i) = putAll order [] ts) ∧ Hd (Below w.heap.size w wr)) (fun _ v _ => ts.length - (intOf v).toNat)
   case atStart => exact ⟨0, [], _, _, rfl, rfl, by omega, by simp, Nat.le_refl _, H0, ⟨.nil HOK.out, fun s h => by cases h⟩, ⟨rfl⟩, HB⟩
   case round =>
    clear H0 HB
    obtain ⟨i, al, A', c', rfl, rfl, hi, hal, hac, HA, HST, HQ, HB⟩ := hrel
    by_cases hlt : i < ts.length
    ·have i1 : (i : Int) < ts.length := by omega
     have i3 : (0 : Int) ≤ i := by omega
     obtain ⟨ad, B1, c1, B2, c2, t, rfl, hab, ht, hrt, q0, q1, q2, q3, q4, q5, q6⟩ := (HP.out.up HB.out).get hlt
     have hst := HS.out.2 t (List.mem_of_getElem? ht.out)
     have hmt : monMay t.m = true := by
      have := HR.out t (List.mem_of_getElem? ht.out)
      unfold right at this
      rw [Bool.and_eq_true] at this
      exact this.2
     have CP := Hd.mk (rpol_put b0 order A' c' al _ t wr (Nat.le_trans HB0.out HB.out.size) HA.out hac (by omega) ⟨by omega, HST.out.2⟩ hrt.out hst hmt HST.out.1)
     have HD : Hd (putAll order [] ts = if (putD order al t).1 ≠ 0 then ((putD order al t).1, []) else putAll order (putD order al t).2 (ts.drop (i + 1))) := ⟨by
      have e1 : ts[i] = t := by have := ht.out; rw [List.getElem?_eq_getElem hlt] at this; injection this
      rw [← HQ.out, List.drop_eq_getElem_cons hlt, e1]; rfl⟩
     have HN : Hd ((putD order al t).1 = 0 → Sta order (putD order al t).2) := ⟨fun he => HST.out.1.putD hmt he⟩
     have HSH := Hd.mk (putD_short (o := order) (al := al) (t := t) HST.out.2 hst)
     obtain ⟨X1, X2, hX⟩ : ∃ X1 X2, putD order al t = (X1, X2) := ⟨_, _, rfl⟩
     rw [hX] at CP HD HN HSH
     clear hst hmt ht hX hrt
     go_wp2_with fail
     refine CP.out.mono ?_
     rintro e w3 ⟨A3, c3, rfl, hc3, hr3, hb3⟩
     have HB3 := Hd.mk (goes HB.out hb3)
     have HA3 := Hd.mk hr3
     have hl3 : X2.length ≤ i + 1 := Nat.le_trans HSH.out.2 (by omega)
     clear hb3 hr3 q0 q1 q2 q3 q4 q5 q6 CP
     by_cases he : X1 = 0
     ·have e1 : (X1 != 0) = false := by rw [bne_eq_false_iff_eq]; exact he
      have HD2 : Hd (putAll order X2 (ts.drop (i + 1)) = putAll order [] ts) := ⟨by rw [HD.out, if_neg (by simpa using he)]⟩
      have HST2 : Hd (Sta order X2 ∧ ∀ s ∈ X2, s.c.short) := ⟨HN.out he, HSH.out.1⟩
      clear he
      go_wp2_with fail
      go_roundw
      case measure => first | (simp [intOf]; done) | (simp [intOf]; omega)
      case rel => exact ⟨i + 1, X2, A3, c3, by go_num, rfl, by omega, hl3, hc3, HA3, HST2, HD2, HB3⟩
     ·have e1 : (X1 != 0) = true := by rw [bne_iff_ne]; exact he
      have HF : Hd (E = (X1, [])) := ⟨by
       have hp : putAll order [] ts = (X1, []) := HD.out.trans (if_pos he)
       rw [HE2.out, hp]; exact if_pos he⟩
      clear he
      go_wp2_with fail
      go_ret2
      rw [HF.out]
      exact ⟨none, 0, rfl, Nat.le_refl _, RPol.nil _ _ _, HB3.out, Fr.none _⟩
    ·obtain rfl : i = ts.length := by omega
     have HQ2 : Hd (putAll order [] ts = (0, al)) := ⟨by rw [← HQ.out, List.drop_eq_nil_of_le (Nat.le_refl _)]; rfl⟩
     have HE3 : Hd (E = if 60 < (al.filter nz).length then (90, []) else (0, al.filter nz)) := ⟨by rw [HE2.out, HQ2.out, if_neg (by simp)]⟩
     have HAS := Hd.mk HST.out.2
     obtain ⟨wA, hwA⟩ : ∃ x, x = wr := ⟨wr, rfl⟩
     subst hwA
     have HB0A := Hd.mk (Nat.le_trans HB0.out HB.out.size)
     clear HQ HQ2 HE2 HST
     go_upto_region 17 with (fail)
     refine wp_gen (fun W => Below wA.heap.size wA W ∧ OwnT W b0 wA.heap.size (.slice (some ⟨wA.heap.size, 0, none⟩) 0 0) []) ⟨(Below.refl _ _).alloc (Nat.le_refl _) _, ownT_lit wA b0 wA.heap.size (Nat.le_refl _)⟩ ?_
     intro W1 hW
     have HO1 := Hd.mk hW.out.2
     have HB1 := Hd.mk hW.out.1
     clear hW
     go_wp2_with fail
     go_loopw [11, 12] (fun v11 v12 wr => ∃ (i : Nat) (acc : List TermD), v12 = .int .i64 i ∧ i ≤ al.length ∧ acc.length ≤ i ∧ Hd (OwnT wr b0 wA.heap.size v11 acc) ∧ Hd (acc = (al.take i).filter nz) ∧ Hd (Below wA.heap.size wA wr)) (fun _ v _ => al.length - (intOf v).toNat)
     case atStart => exact ⟨0, [], rfl, by omega, by simp, HO1, ⟨rfl⟩, HB1⟩
     case round =>
      clear HO1 HB1
      obtain ⟨i, acc, rfl, hi, hacc, HO, HQ, HB2⟩ := hrel
      obtain ⟨Av, cv, rfl, hcv, _, hrv⟩ := HO.out.reads
      have HRV := Hd.mk hrv
      clear hrv
      by_cases hlt : i < al.length
      ·have i1 : (i : Int) < al.length := by omega
       have i3 : (0 : Int) ≤ i := by omega
       obtain ⟨ad, B1, c1, B2, c2, t, rfl, hab, ht, hrt, q0, q1, q2, q3, q4, q5, q6⟩ := (HA.out.up HB2.out).get hlt
       have CZ := Hd.mk (rrat_Zero b0 _ t.c wr hrt.out.rat)
       have HT : Hd ((al.take (i + 1)).filter nz = acc ++ [t].filter nz) := ⟨by
        have e1 : al[i] = t := by have := ht.out; rw [List.getElem?_eq_getElem hlt] at this; injection this
        rw [List.take_succ_eq_append_getElem hlt, e1, List.filter_append, HQ.out]⟩
       obtain ⟨zb, hzb⟩ : ∃ zb, decide (t.c.num.length = 0) = zb := ⟨_, rfl⟩
       have HZ : Hd (nz t = !zb) := ⟨by unfold nz; rw [hzb]⟩
       rw [hzb] at CZ
       clear hzb HQ ht
       cases zb
       ·have HT2 : Hd (acc ++ [t] = (al.take (i + 1)).filter nz) := ⟨by rw [HT.out, List.filter_cons, HZ.out]; rfl⟩
        have xl : acc.length + [t].length ≤ 1000000 := by simp; omega
        have XL := Hd.mk xl
        clear HT HZ xl
        go_wp2_with fail
        refine CZ.out.mono ?_
        rintro e w4 ⟨rfl, hb4⟩
        have HB4 := Hd.mk (goes HB2.out hb4)
        have HO4 := Hd.mk (HO.out.up hb4)
        have HT4 := Hd.mk (hrt.out.up hb4)
        have r0 := cell_up q0 hb4
        have r1 := cell_up q1 hb4
        have r2 := cell_up q2 hb4
        have r3 := cell_up q3 hb4
        have r4 := cell_up q4 hb4
        have r5 := cell_up q5 hb4
        have r6 := cell_up q6 hb4
        clear hb4 q0 q1 q2 q3 q4 q5 q6 CZ hrt
        go_wp2_with (at_builtin; refine wpList_append_T (w0 := wA) (us := [t]) rfl _ _ 23 23 rfl Tryz.slPoly Tryz.slPoly rfl rfl rfl (HO4.out.up ((Below.refl _ _).alloc (Nat.le_refl _) _)) (rpol_one HT4.out _) HB0A.out XL.out (goes HB4.out ((Below.refl _ _).alloc (Nat.le_refl _) _)) (Nat.le_refl _) (goes HB4.out ((Below.refl _ _).alloc (Nat.le_refl _) _)).size ?_)
        intro v' w8 AP
        have HAP := Hd.mk AP
        clear AP
        have hl8 : (acc ++ [t]).length ≤ i + 1 := by simp; omega
        go_wp2_with fail
        go_roundw
        case measure => first | (simp [intOf]; done) | (simp [intOf]; omega)
        case rel => exact ⟨i + 1, acc ++ [t], by go_num, by omega, hl8, ⟨HAP.out.own⟩, HT2, ⟨HAP.out.below⟩⟩
       ·have HT2 : Hd (acc = (al.take (i + 1)).filter nz) := ⟨by rw [HT.out, List.filter_cons, HZ.out]; simp⟩
        clear HT HZ
        go_wp2_with fail
        refine CZ.out.mono ?_
        rintro e w4 ⟨rfl, hb4⟩
        have HB4 := Hd.mk (goes HB2.out hb4)
        have HO4 := Hd.mk (HO.out.up hb4)
        clear hb4 CZ hrt
        go_wp2_with fail
        go_roundw
        case measure => first | (simp [intOf]; done) | (simp [intOf]; omega)
        case rel => exact ⟨i + 1, acc, by go_num, by omega, by omega, HO4, HT2, HB4⟩
      ·obtain rfl : i = al.length := by omega
       have HQ2 : Hd (E = if 60 < acc.length then (90, []) else (0, acc)) := ⟨by rw [HE3.out, HQ.out, List.take_length]⟩
       clear HQ
       by_cases h60 : 60 < acc.length
       ·have HF : Hd (E = (90, [])) := ⟨by rw [HQ2.out, if_pos h60]⟩
        clear HQ2
        go_wp2_with fail
        go_ret2
        rw [HF.out]
        exact ⟨none, 0, rfl, Nat.le_refl _, RPol.nil _ _ _, goes HB.out HB2.out, Fr.none _⟩
       ·have HF : Hd (E = (0, acc)) := ⟨by rw [HQ2.out, if_neg h60]⟩
        clear HQ2
        go_wp2_with fail
        go_ret2
        rw [HF.out]
        exact ⟨Av, cv, rfl, hcv, HRV.out, goes HB.out HB2.out, HO.out.fr HB.out.size⟩
theorem rpol_Make (b0 : Nat) (order : Int) (A : Option Addr) (c : Nat) (ts : List TermD) (w : World) (hb0 : b0 ≤ w.heap.size) (h : RPol w b0 A ts) (hc : ts.length ≤ c) (h9 : ts.length ≤ 50000) (hs : shortP ts) :
    Calls Tryz.prog 55 #[.int .i64 order, .slice A ts.length c] w fun e w' => ∃ A' c', e = .returned (.tuple #[.slice A' (polMake order ts).2.length c', .int .i64 (polMake order ts).1]) ∧
     (polMake order ts).2.length ≤ c' ∧ RPol w' b0 A' (polMake order ts).2 ∧ Below w.heap.size w w' :=
 (rpol_MakeF b0 order A c ts w hb0 h hc h9 hs).mono fun _ _ ⟨A', c', h1, h2, h3, h4, _⟩ => ⟨A', c', h1, h2, h3, h4⟩
theorem termEq_iff {s t : TermD} : decide (s = t) = (decide (s.m = t.m) && sameR s.c t.c) := by
 rw [Bool.eq_iff_iff]
 simp only [decide_eq_true_eq, Bool.and_eq_true, sameR_iff]
 exact ⟨fun h => by rw [h]; exact ⟨rfl, rfl⟩, fun h => by cases s; cases t; simp at h; simp [h.1, h.2]⟩
theorem putAll_short {o : Int} : ∀ {ts al : List TermD}, (∀ s ∈ al, s.c.short) → (∀ s ∈ ts, s.c.short) → ∀ s ∈ (putAll o al ts).2, s.c.short
 | [], al, h, _ => h
 | t :: ts, al, h, ht => by
   unfold putAll
   split
   ·intro s hs; cases hs
   ·exact putAll_short (putD_short h (ht t (by simp))).1 (fun s hs => ht s (by simp [hs]))
theorem polMake_short {o : Int} {ts : List TermD} (h : ∀ s ∈ ts, s.c.short) : shortP (polMake o ts).2 ∧ (polMake o ts).2.length ≤ 60 := by
 unfold polMake
 split
 ·exact ⟨⟨by simp, fun s hs => by cases hs⟩, by simp⟩
 ·split
  ·exact ⟨⟨by simp, fun s hs => by cases hs⟩, by simp⟩
  ·split
   ·exact ⟨⟨by simp, fun s hs => by cases hs⟩, by simp⟩
   ·rename_i h60
    have hl : ((putAll o [] ts).2.filter nz).length ≤ 60 := Nat.le_of_not_lt h60
    exact ⟨⟨Nat.le_trans hl (by decide), fun s hs => putAll_short (fun _ h => by cases h) h s (List.mem_filter.1 hs).1⟩, hl⟩
end Go.Proofs.YtjanagclahkfdaaGreat
