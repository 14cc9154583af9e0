/- Parts of the proof, joined: each theorem says what it shows. -/
import Derived.Test.YtgjkgkgieeoalaaGreatF01
import Derived.Test.YtgjkgkgieeoalaaGreatF35
import Derived.Test.YtgjkgkgieeoalaaGreatF19
import Derived.Test.YtgjkgkgieeoalaaGreatF34
import Derived.Test.YtgjkgkgieeoalaaGreatF27
import Derived.Test.YtgjkgkgieeoalaaGreatF31
import Derived.Test.YtgjkgkgieeoalaaGreatF23
set_option linter.unusedVariables false
set_option linter.unusedSimpArgs false
set_option maxHeartbeats 24000000
set_option maxRecDepth 100000
namespace Go.Proofs.YtgjkgkgieeoalaaGreat
open Go.RowKit
def Looks7 (F : FuncId) (cb : Array Value) (b0 : Nat) (f : TermD → Bool) (ts : List TermD) (w : World) : Prop :=
 ∀ (W : World) (B1 : Option Addr) (c1 : Nat) (B2 : Option Addr) (c2 : Nat) (t : TermD), Below w.heap.size w W → t ∈ ts →
  RTerm W b0 (.agg #[.bool t.c.neg, .slice B1 t.c.num.length c1, .slice B2 t.c.den.length c2, .int .i64 t.m.x0, .int .i64 t.m.x1, .int .i64 t.m.x2, .int .i64 t.m.x3]) t →
  Calls Tryz.prog F (#[.agg #[.bool t.c.neg, .slice B1 t.c.num.length c1, .slice B2 t.c.den.length c2, .int .i64 t.m.x0, .int .i64 t.m.x1, .int .i64 t.m.x2, .int .i64 t.m.x3]] ++ cb) W fun e w' => e = .returned (.bool (f t)) ∧ Below W.heap.size W w'
theorem terms_Index (F : FuncId) (cb : Array Value) (eg : ∀ args w, (callFunc F args).run Tryz.prog w = .ok (.enter F args) w) (b0 : Nat) (f : TermD → Bool) (A : Option Addr) (c : Nat) (ps : List TermD) (w : World) (h : RPol w b0 A ps) (hl : ps.length ≤ 1000) (hf : Looks7 F cb b0 f ps w) :
    Calls Tryz.prog 204 #[.slice A ps.length c, .func (.func F) #[] cb] w fun e w' => ∃ i : Int, e = .returned (.int .i64 i) ∧ decide (0 ≤ i) = ps.any f ∧ Below w.heap.size w w' := by
 have H := aa h
 have HF := aa hf
 clear h hf
 go_enter Tryz.func204, Tryz.ntmps204
 go_wp2_with fail
 go_loopw [8] (fun v wr => ∃ i : Nat, v = .int .i64 i ∧ i ≤ ps.length ∧ Hd ((ps.take i).any f = false) ∧ Hd (Below w.heap.size w wr)) (fun v _ => ps.length - (intOf v).toNat)
 case atStart => exact ⟨0, rfl, by omega, ⟨rfl⟩, ⟨.refl _ _⟩⟩
 case round =>
  obtain ⟨i, rfl, hi, ht, hb⟩ := hrel
  by_cases hlt : i < ps.length
  ·obtain ⟨ad, B1, c1, B2, c2, t, rfl, hab, hti, hrt, q0, q1, q2, q3, q4, q5, q6⟩ := (H.out.up hb.out).get hlt
   have i2 : (i : Int) < ps.length := by omega
   have i3 : (0 : Int) ≤ i := by omega
   have CB := aa (HF.out wr B1 c1 B2 c2 t hb.out (List.mem_of_getElem? hti.out) hrt.out)
   have hsn : Hd ((ps.take (i + 1)).any f = ((ps.take i).any f || f t)) := ⟨by
    rw [List.take_add_one, hti.out, List.any_append]; simp⟩
   clear hrt
   cases h8 : f t
   case true =>
    rw [h8] at CB hsn
    clear h8
    go_wp2_with (go_at_fn F; refine CB.out.mono ?_; rintro e w' ⟨rfl, hb2⟩; have HB := aa (hb.out.trans (hb2.mono hb.out.size)); clear hb2 q0 q1 q2 q3 q4 q5 q6)
    go_ret
    refine ⟨_, rfl, ?_, HB.out⟩
    have h1 := hsn.out
    rw [Bool.or_true] at h1
    rw [decide_eq_true (by omega : (0 : Int) ≤ i)]
    conv => rhs; rw [← List.take_append_drop (i + 1) ps]
    rw [List.any_append, h1]; rfl
   case false =>
    rw [h8] at CB hsn
    clear h8
    go_wp2_with (go_at_fn F; refine CB.out.mono ?_; rintro e w' ⟨rfl, hb2⟩; have HB := aa (hb.out.trans (hb2.mono hb.out.size)); clear hb2 q0 q1 q2 q3 q4 q5 q6)
    go_roundw
    case measure => first | (simp [intOf]; done) | (simp [intOf]; omega)
    case rel => exact ⟨i + 1, by go_num, by omega, ⟨by rw [hsn.out, ht.out]; rfl⟩, HB⟩
  ·have hie : i = ps.length := by omega
   subst hie
   go_wp2_with fail
   go_ret
   refine ⟨_, rfl, ?_, hb.out⟩
   have := ht.out
   rw [List.take_length] at this
   rw [this]; rfl
theorem terms_Contains (F : FuncId) (cb : Array Value) (eg : ∀ args w, (callFunc F args).run Tryz.prog w = .ok (.enter F args) w) (b0 : Nat) (f : TermD → Bool) (A : Option Addr) (c : Nat) (ps : List TermD) (w : World) (h : RPol w b0 A ps) (hl : ps.length ≤ 1000) (hf : Looks7 F cb b0 f ps w) :
    Calls Tryz.prog 123 #[.slice A ps.length c, .func (.func F) #[] cb] w fun e w' => e = .returned (.bool (ps.any f)) ∧ Below w.heap.size w w' := by
 have hi := aa (terms_Index F cb eg b0 f A c ps w h hl hf)
 clear h hf
 go_enter Tryz.func123, Tryz.ntmps123
 go_wp2_with fail
 refine hi.out.mono ?_
 rintro e w' ⟨i, rfl, hib, hb⟩
 have HIB := aa hib
 have HB := aa hb
 clear hib hb
 go_wp2_with fail
 go_ret
 exact ⟨retBool HIB.out, HB.out⟩
theorem Is_1 {b0 g : Nat} {q : List TermD} {A B1 B2 : Option Addr} {c c1 c2 : Nat} {t : TermD} {w : World} (hk : Bk w g 25 #[.slice A q.length c]) (h : RPol w b0 A q) (hq : q ≠ []) :
    Calls Tryz.prog 124 #[.agg #[.bool t.c.neg, .slice B1 t.c.num.length c1, .slice B2 t.c.den.length c2, .int .i64 t.m.x0, .int .i64 t.m.x1, .int .i64 t.m.x2, .int .i64 t.m.x3], .pointer (some ⟨g, 0, none⟩)] w fun e w' => e = .returned (.bool (monDiv t.m (hdM q)).1) ∧ Below w.heap.size w w' := by
 obtain ⟨ad, rfl, -, p0, p1, p2, p3⟩ := h.head hq
 have q0 := hk.one
 have CD := aa (fun W => reduce_divides (hdM q) t.m W)
 obtain ⟨x, hx⟩ : ∃ x, hdM q = x := ⟨_, rfl⟩
 rw [hx] at CD p0 p1 p2 p3 ⊢
 generalize (monDiv t.m x).1 = B at CD ⊢
 have hn : (0 : Int) < q.length := by have := List.length_pos_iff.2 hq; omega
 have hn2 : 0 < q.length := List.length_pos_iff.2 hq
 clear h hk hx hq
 go_enter Tryz.func124, Tryz.ntmps124
 go_upto_region 1 with (fail)
 refine wp_gen (fun W => Below w.heap.size w W ∧ Bk W w.heap.size 68 #[.bool t.c.neg, .slice B1 t.c.num.length c1, .slice B2 t.c.den.length c2, .int .i64 t.m.x0, .int .i64 t.m.x1, .int .i64 t.m.x2, .int .i64 t.m.x3]) ⟨(ag _ _).alloc (ae _) _, Bk.new_ _ _ _⟩ ?_
 intro W BK
 obtain ⟨⟨k0, k1, k2⟩, k3, k4, k5, k6⟩ := BK.out.2.seven
 have k3 := Wd.cell k3
 have k4 := Wd.cell k4
 have k5 := Wd.cell k5
 have k6 := Wd.cell k6
 have p0 := Wd.cell (cell_up p0 BK.out.1)
 have p1 := Wd.cell (cell_up p1 BK.out.1)
 have p2 := Wd.cell (cell_up p2 BK.out.1)
 have p3 := Wd.cell (cell_up p3 BK.out.1)
 have q0 := Wd.cell (cell_up q0 BK.out.1)
 have HB := aa BK.out.1
 clear BK k0 k1 k2
 obtain ⟨gb, hgb⟩ : ∃ gb, w.heap.size = gb := ⟨_, rfl⟩
 rw [hgb] at k3 k4 k5 k6 ⊢
 clear hgb
 go_wp2_with fail
 refine wp_region_wd W (by kernel_rfl) (by kernel_rfl) (ag _ _).drew ?_
 repeat (go_big_quiet_step ((go_at_call 108; exact Wd.call (CD.out _))))
 refine wd_nil fun nq => ?_
 go_wp2_with fail
 go_ret
 exact ⟨rfl, goes HB.out nq.lo⟩
structure IsOk (o : Int) (l : List (List TermD)) (i : Nat) (p : List TermD) : Prop where
 lead : LeadOk o l i p
 rest : ∀ q ∈ l.eraseIdx i, q ≠ [] ∧ ∀ t ∈ p, (monDiv t.m (hdM q)).1 = false
theorem form_is {o : Int} {l : List (List TermD)} (ho : oOk o) (F : Form o l) (hs : Srt o l) {i : Nat} {p : List TermD} (hp : l[i]? = some p) : IsOk o l i p := by
 have L := leadAt_of (F.lead ho hs (List.getElem?_eq_some_iff.1 hp).1) hp
 refine ⟨L, fun q hq => ?_⟩
 obtain ⟨k, hk, hkq⟩ := List.mem_eraseIdx_iff_getElem?.1 hq
 have hne := (F.mz q (List.mem_of_getElem? hkq)).pz
 refine ⟨hne.ne, fun t ht => F.rby p (List.mem_of_getElem? hp) t ht (hdM q) (List.mem_map.2 ⟨q, List.mem_of_getElem? hkq, rfl⟩) fun e => ?_⟩
 have h1 := L.nd k q hk hkq hne.ne
 unfold dvd at h1
 rw [← e, dvd_self hne.may] at h1
 cases h1
theorem reduce_Is (b0 b off c : Nat) (o : Int) (ps : List (List TermD)) (w : World) (ho : oOk o) (hb0 : b0 ≤ w.heap.size) (h : RPols w b0 (some ⟨b, off, none⟩) ps) (hcp : ∀ p ∈ ps, CP o p) (hl : ps.length ≤ 12) (hok : ∀ i p, ps[i]? = some p → IsOk o ps i p) :
    Calls Tryz.prog 48 #[.int .i64 o, .slice (some ⟨b, off, none⟩) ps.length c] w fun e w' => e = .returned (.bool true) ∧ Below w.heap.size w w' := by
 have hbs : basisD o ps = true := by simpa using basis_of ho hcp (by omega)
 have CB := aa (reduce_basis b0 o (some ⟨b, off, none⟩) c ps w h (by omega) fun p hp => cp_short (hcp p hp))
 have CT := aa (fun (i : Nat) (hi : i < ps.length) (W : World) (hB : Below w.heap.size w W) => reduce_others b0 b off c i ps W (ah hb0 hB.size) (h.up hB) (by omega) hi)
 rw [hbs] at CB
 obtain ⟨ad, had⟩ : ∃ ad, (⟨b, off, none⟩ : Addr) = ad := ⟨_, rfl⟩
 rw [had] at h CB CT ⊢
 have HR := aa h
 have HCP := aa hcp
 have HOK := aa hok
 clear had h hcp hok hbs
 go_enter Tryz.func48, Tryz.ntmps48
 go_wp2_with fail
 refine CB.out.mono ?_
 rintro e w1 ⟨rfl, hb⟩
 have HB1 := aa hb
 clear hb CB
 go_wp2_with fail
 go_loopw [17] (fun v17 wr => ∃ i : Nat, v17 = .int .i64 i ∧ i ≤ ps.length ∧ Hd (Below w.heap.size w wr)) (fun v _ => ps.length - (intOf v).toNat)
 case atStart => exact ⟨0, rfl, by omega, HB1⟩
 case round =>
  clear HB1
  obtain ⟨i, rfl, hi, HB⟩ := hrel
  by_cases hlt : i < ps.length
  case pos =>
   have i1 : (i : Int) < ps.length := by omega
   have i3 : (0 : Int) ≤ i := by omega
   obtain ⟨ad', a, pc, p, e, -, hp, c0, hpc, hr⟩ := (HR.out.up HB.out).get hlt
   injection e with e
   subst e
   have LO := aa (HOK.out i p hp.out).lead
   have SP := aa (cp_short (HCP.out p (List.mem_of_getElem? hp.out)))
   have CO := aa (fun n : Wd wr => ratio_Of b0 1 n.w (ah hb0 (goes HB.out n.lo).size) (by omega) (by omega))
   obtain ⟨pd, X1, x1, X2, x2, ea, hrat, z0, z1, z2⟩ := hr.out.hd7 LO.out.ne
   have CS := aa (fun (n : Wd wr) (x : Value) (hx : RRat n.w b0 x (ofD 1)) => ratio_Same b0 _ x (hdT p).c (ofD 1) n.w (hrat.out.up n.lo) hx (SP.out.2 _ (by have := LO.out.ne; cases p with | nil => exact absurd rfl this | cons t p => simp [hdT])) (ofD_short 1 (by decide)))
   rw [LO.out.same] at CS
   have e0 : ((p.length : Int) == 0) = false := by have := List.length_pos_iff.2 LO.out.ne; rw [beq_eq_false_iff_ne]; omega
   have e1 : (0 : Int) < p.length := by have := List.length_pos_iff.2 LO.out.ne; omega
   have PR := hr
   subst ea
   have z0 := Wd.cell z0
   have z1 := Wd.cell z1
   have z2 := Wd.cell z2
   have e2 := List.length_pos_iff.2 LO.out.ne
   go_upto_region 6 with (fail)
   clear c0
   rcases Nat.eq_zero_or_pos i with h0 | h0
   ·have g0 : decide ((i : Int) > 0) = false := decide_eq_false (by omega)
    have g1 : decide (0 < i) = false := decide_eq_false (by omega)
    clear h0 hp hr hrat
    refine wp_region_ph 3 8 (fun W => ∃ n : Wd wr, W = n.w) (fun W => W.cell? pd = some (.bool (hdT p).c.neg) ∧ W.cell? ⟨pd.block, pd.off + 1, none⟩ = some (.slice X1 (hdT p).c.num.length x1) ∧ W.cell? ⟨pd.block, pd.off + 2, none⟩ = some (.slice X2 (hdT p).c.den.length x2)) _ (by kernel_rfl) rfl (by kernel_rfl) (fun c a d v w h => by cases d <;> exact h) ⟨⟨wr.drew, (ag _ _).drew⟩, rfl⟩ (by rintro _ ⟨n, rfl⟩; exact ⟨z0 n, z1 n, z2 n⟩) ?_
    simp only [List.take_succ_cons, List.take_zero, List.drop_succ_cons, List.drop_zero, Nat.reduceSub]
    repeat (go_big_quiet_step (fail))
    refine wpQuiet_nil ?_
    rintro W ⟨nn, rfl⟩
    iterate 5 (refine ⟨?_, Or.inl ⟨by rfl, ?_⟩, ?_⟩; rotate_left; (rintro W ⟨r0, r1, r2⟩; go_simp; try with_reducible rfl); simp only [Act.put, List.setIfInBounds_toArray, List.set_cons_zero, List.set_cons_succ])
    refine wpHead_nil ⟨by rfl, ?_⟩
    intro K hK
    go_simp
    refine (CO.out nn).mono ?_
    rintro e w5 ⟨v, rfl, hv, hb⟩
    obtain ⟨m5, rfl⟩ : ∃ m5 : Wd wr, w5 = m5.w := ⟨⟨w5, goes nn.lo hb⟩, rfl⟩
    have CS5 := aa (fun (n : Wd m5.w) => CS.out ⟨n.w, goes m5.lo n.lo⟩ v (hv.up n.lo))
    have HV := aa hv
    obtain ⟨vA, vc, vB, vd, rfl, -, -, -, -⟩ := hv
    refine hK _ _ ⟨z0 m5, z1 m5, z2 m5⟩ ⟨fun W => ∃ n : Wd m5.w, W = n.w, ⟨⟨m5.w, .refl _ _⟩, rfl⟩, ?_⟩
    clear hK K hb
    repeat (go_big_quiet_step ((go_at_call 122; exact Wd.call (CS5.out _))))
    refine wd_nil fun nq => ?_
    have HB5 := aa (goes HB.out (goes m5.lo nq.lo))
    go_wp2_with fail
    go_roundw
    case measure => first | (simp [intOf]; done) | (simp [intOf]; omega)
    case rel => exact ⟨i + 1, by go_num, by omega, HB5⟩
   ·have g0 : decide ((i : Int) > 0) = true := decide_eq_true (by omega)
    have g1 : decide (0 < i) = true := decide_eq_true (by omega)
    obtain ⟨j, hj⟩ : ∃ j, i = j + 1 := ⟨i - 1, by omega⟩
    have hw : IntKind.i64.wrap ((i : Int) - 1) = (j : Int) := by rw [IntKind.wrap_i64]; omega
    have j1 : (j : Int) < ps.length := by omega
    have j3 : (0 : Int) ≤ j := by omega
    obtain ⟨ad', a', pc', q, e, -, hq, d0, -, hrq⟩ := (HR.out.up HB.out).get (j := j) (by omega)
    injection e with e
    subst e
    have LQ := (HOK.out j q hq.out).lead
    obtain ⟨qd, rfl, -, y0, y1, y2, y3⟩ := hrq.out.head LQ.ne
    obtain ⟨pd', e, -, m0, m1, m2, m3⟩ := PR.out.head LO.out.ne
    injection e with e
    subst e
    have CQ := aa (fun W => (mono_Cmp o (hdM q) (hdM p) W).mono fun _ _ h => af h.1 h.2.lo)
    have hcmp := LO.out.fall j q hj hq.out
    have l1 : decide (monCmp o (hdM q) (hdM p) ≤ 0) = false := decide_eq_false (by omega)
    obtain ⟨R, hR⟩ : ∃ R, monCmp o (hdM q) (hdM p) = R := ⟨_, rfl⟩
    rw [hR] at CQ l1
    have f1 : (0 : Int) < q.length := by have := List.length_pos_iff.2 LQ.ne; omega
    have f2 := List.length_pos_iff.2 LQ.ne
    clear h0 hp hr hrat hR hcmp hrq hq LQ hj
    refine wp_region_ph 3 8 (fun W => ∃ n : Wd wr, W = n.w) (fun W => W.cell? pd = some (.bool (hdT p).c.neg) ∧ W.cell? ⟨pd.block, pd.off + 1, none⟩ = some (.slice X1 (hdT p).c.num.length x1) ∧ W.cell? ⟨pd.block, pd.off + 2, none⟩ = some (.slice X2 (hdT p).c.den.length x2)) _ (by kernel_rfl) rfl (by kernel_rfl) (fun c a d v w h => by cases d <;> exact h) ⟨⟨wr.drew, (ag _ _).drew⟩, rfl⟩ (by rintro _ ⟨n, rfl⟩; exact ⟨z0 n, z1 n, z2 n⟩) ?_
    simp only [List.take_succ_cons, List.take_zero, List.drop_succ_cons, List.drop_zero, Nat.reduceSub]
    repeat (go_big_quiet_step (fail))
    refine wpQuiet_nil ?_
    rintro W ⟨nn, rfl⟩
    iterate 5 (refine ⟨?_, Or.inl ⟨by rfl, ?_⟩, ?_⟩; rotate_left; (rintro W ⟨r0, r1, r2⟩; go_simp; try with_reducible rfl); simp only [Act.put, List.setIfInBounds_toArray, List.set_cons_zero, List.set_cons_succ])
    refine wpHead_nil ⟨by rfl, ?_⟩
    intro K hK
    go_simp
    refine (CO.out nn).mono ?_
    rintro e w5 ⟨v, rfl, hv, hb⟩
    obtain ⟨m5, rfl⟩ : ∃ m5 : Wd wr, w5 = m5.w := ⟨⟨w5, goes nn.lo hb⟩, rfl⟩
    have CS5 := aa (fun (n : Wd m5.w) => CS.out ⟨n.w, goes m5.lo n.lo⟩ v (hv.up n.lo))
    have HV := aa hv
    obtain ⟨vA, vc, vB, vd, rfl, -, -, -, -⟩ := hv
    refine hK _ _ ⟨z0 m5, z1 m5, z2 m5⟩ ⟨fun W => ∃ n : Wd m5.w, W = n.w, ⟨⟨m5.w, .refl _ _⟩, rfl⟩, ?_⟩
    clear hK K hb
    have d0 := Wd.cell (cell_up d0 m5.lo)
    have y0 := Wd.cell (cell_up y0 m5.lo)
    have y1 := Wd.cell (cell_up y1 m5.lo)
    have y2 := Wd.cell (cell_up y2 m5.lo)
    have y3 := Wd.cell (cell_up y3 m5.lo)
    have m0 := Wd.cell (cell_up m0 m5.lo)
    have m1 := Wd.cell (cell_up m1 m5.lo)
    have m2 := Wd.cell (cell_up m2 m5.lo)
    have m3 := Wd.cell (cell_up m3 m5.lo)
    repeat (go_big_quiet_step ((first
     | (go_at_call 122; exact Wd.call (CS5.out _))
     | (go_at_call 115; exact Wd.call (CQ.out _)))))
    refine wd_nil fun nq => ?_
    have HB5 := aa (goes HB.out (goes m5.lo nq.lo))
    go_wp2_with fail
    go_roundw
    case measure => first | (simp [intOf]; done) | (simp [intOf]; omega)
    case rel => exact ⟨i + 1, by go_num, by omega, HB5⟩
  case neg =>
   have i1 : ¬ (i : Int) < ps.length := by omega
   go_wp2_with fail
   go_loopw [58] (fun v58 wr => ∃ k : Nat, v58 = .int .i64 k ∧ k ≤ ps.length ∧ Hd (Below w.heap.size w wr)) (fun v _ => ps.length - (intOf v).toNat)
   case atStart => exact ⟨0, rfl, by omega, HB⟩
   case round =>
    clear HB i1 hlt hi
    obtain ⟨k, rfl, hk, HK⟩ := hrel
    by_cases hkl : k < ps.length
    case neg =>
     have k1 : ¬ (k : Int) < ps.length := by omega
     go_wp2_with fail
     go_ret
     exact ⟨rfl, HK.out⟩
    have k1 : (k : Int) < ps.length := by omega
    have k3 : (0 : Int) ≤ k := by omega
    obtain ⟨ad', a, pc, p, e, -, hp, c0, hpc, hr⟩ := (HR.out.up HK.out).get hkl
    injection e with e
    subst e
    have RO := aa (HOK.out k p hp.out).rest
    have SP := aa (HCP.out p (List.mem_of_getElem? hp.out)).len
    have CT1 := aa (CT.out k hkl wr HK.out)
    have HLL : Hd ((ps.eraseIdx k).length ≤ 12) := ⟨ah (List.length_eraseIdx_le _ _) hl⟩
    obtain ⟨L, hL⟩ : ∃ L, ps.eraseIdx k = L := ⟨_, rfl⟩
    rw [hL] at CT1 RO HLL
    clear hL hp
    go_wp2_with fail
    refine CT1.out.mono ?_
    rintro e w3 ⟨g, cap, S, rfl, hrow, hb⟩
    have HL3 := aa hrow.all
    have HB3 := aa (goes HK.out hb)
    have HP3 := aa (hr.out.up hb)
    clear hrow hb c0 hr CT1
    generalize (⟨g, 0, none⟩ : Addr) = ga at HL3 ⊢
    have hL12 := HLL.out
    go_wp2_with fail
    go_loopw [67] (fun v67 wr => ∃ j : Nat, v67 = .int .i64 j ∧ j ≤ L.length ∧ Hd (Below w3.heap.size w3 wr)) (fun v _ => L.length - (intOf v).toNat)
    case atStart => exact ⟨0, rfl, by omega, ⟨.refl _ _⟩⟩
    case round =>
     obtain ⟨j, rfl, hj, HJ⟩ := hrel
     by_cases hjl : j < L.length
     case neg =>
      have j1 : ¬ (j : Int) < L.length := by omega
      have HB4 := aa (goes HB3.out HJ.out)
      go_wp2_with fail
      exact ⟨⟨k + 1, by go_num, by omega, HB4⟩, by simp [intOf]; omega⟩
     have j1 : (j : Int) < L.length := by omega
     have j3 : (0 : Int) ≤ j := by omega
     obtain ⟨ga', qa, qc, q, e, -, hq, c1, hqc, hrq⟩ := (HL3.out.up HJ.out).get hjl
     injection e with e
     subst e
     have RQ := aa (RO.out q (List.mem_of_getElem? hq.out))
     go_upto_region 15 with (fail)
     refine wp_gen (fun W => Below wr.heap.size wr W ∧ Bk W wr.heap.size 25 #[.slice qa q.length qc]) ⟨(ag _ _).alloc (ae _) _, Bk.new_ _ _ _⟩ ?_
     intro W1 H1
     have HJ1 := aa (goes HJ.out H1.out.1)
     have CC := aa (terms_Contains 124 #[.pointer (some ⟨wr.heap.size, 0, none⟩)] (enters_of Tryz.func124 (by kernel_rfl) rfl) b0 (fun t => (monDiv t.m (hdM q)).1) a pc p W1 (HP3.out.up HJ1.out) (by have := SP.out; omega)
      (fun W' _ _ _ _ t hB ht _ => Is_1 (H1.out.2.up hB) (hrq.out.up (goes H1.out.1 hB)) RQ.out.1))
     rw [show (p.any fun t => (monDiv t.m (hdM q)).1) = false from List.any_eq_false.2 fun t ht => by rw [RQ.out.2 t ht]; simp] at CC
     clear H1 hq hrq RQ c1
     generalize wr.heap.size = gq at CC ⊢
     go_wp2_with fail
     refine CC.out.mono ?_
     rintro e w5 ⟨rfl, hb⟩
     have HJ2 := aa (goes HJ1.out hb)
     clear hb CC
     go_wp2_with fail
     go_roundw
     case measure => first | (simp [intOf]; done) | (simp [intOf]; omega)
     case rel => exact ⟨j + 1, by go_num, by omega, HJ2⟩
theorem red_is {o : Int} {l R : List (List TermD)} (ho : oOk o) (h : ∀ p ∈ l, CP o p) (hR : RedIs o l 0 R) : ∀ i p, R[i]? = some p → IsOk o R i p := by
 obtain ⟨e1, _, e2⟩ := hR
 obtain ⟨p1, s1⟩ := e2 rfl
 obtain ⟨F, _, _, _⟩ := red_form h e1.symm
 exact fun i p hp => form_is ho (F.perm p1) s1 hp
def mo9 (m : Int × Int × Int) : MonD := ⟨(IntKind.i64.wrap m.1).tmod 9, (IntKind.i64.wrap m.2.1).tmod 9, (IntKind.i64.wrap m.2.2).tmod 9, 0⟩
def moP (ms : List (Int × Int × Int)) (i : Nat) : List TermD := [⟨ofD ((i : Int) + 2), mo9 (ms.getD i (0, 0, 0))⟩]
def B255 (ms : List (Int × Int × Int)) : Prop := ∀ m ∈ ms, (0 ≤ m.1 ∧ m.1 ≤ 255) ∧ (0 ≤ m.2.1 ∧ m.2.1 ≤ 255) ∧ (0 ≤ m.2.2 ∧ m.2.2 ≤ 255)
theorem mo9_may {m : Int × Int × Int} (h : (0 ≤ m.1 ∧ m.1 ≤ 255) ∧ (0 ≤ m.2.1 ∧ m.2.1 ≤ 255) ∧ (0 ≤ m.2.2 ∧ m.2.2 ≤ 255)) : monMay (mo9 m) = true := by
 have v1 : IntKind.i64.wrap m.1 = m.1 := by rw [IntKind.wrap_i64]; omega
 have v2 : IntKind.i64.wrap m.2.1 = m.2.1 := by rw [IntKind.wrap_i64]; omega
 have v3 : IntKind.i64.wrap m.2.2 = m.2.2 := by rw [IntKind.wrap_i64]; omega
 unfold mo9
 rw [v1, v2, v3, Int.tmod_eq_emod_of_nonneg h.1.1, Int.tmod_eq_emod_of_nonneg h.2.1.1, Int.tmod_eq_emod_of_nonneg h.2.2.1]
 exact monMay_low (by simp only; omega)
theorem moP_mo {ms : List (Int × Int × Int)} (hb : B255 ms) {i : Nat} (hi : i < 5) (hl : ms.length = 5) : Mo (moP ms i) := by
 refine ⟨(i : Int) + 2, _, by omega, by omega, mo9_may (hb _ ?_), rfl⟩
 rw [List.getD_eq_getElem?_getD, ai (by omega : i < ms.length)]
 exact List.getElem_mem _
def moL (ms : List (Int × Int × Int)) (i : Nat) : List (List TermD) := (List.range i).map (moP ms)
theorem moL_succ (ms : List (Int × Int × Int)) (i : Nat) : moL ms (i + 1) = moL ms i ++ [moP ms i] := by
 unfold moL; rw [List.range_succ, List.map_append]; rfl
theorem moL_len (ms : List (Int × Int × Int)) (i : Nat) : (moL ms i).length = i := by unfold moL; simp
theorem moL_mo {ms : List (Int × Int × Int)} (hb : B255 ms) (hl : ms.length = 5) : ∀ p ∈ moL ms 5, Mo p := fun p hp => by
 unfold moL at hp
 obtain ⟨i, hi, rfl⟩ := List.mem_map.1 hp
 exact moP_mo hb (List.mem_range.1 hi) hl
theorem cells3 {w : World} {g : Nat} {t : TypeId} {ms : List (Int × Int × Int)} (hk : Bk w g t (flat3 ms).toArray) {i : Nat} {m : Int × Int × Int} (hm : ms[i]? = some m) :
    w.cell? ⟨g, i * 3, none⟩ = some (.int .u8 m.1) ∧ w.cell? ⟨g, i * 3 + 1, none⟩ = some (.int .u8 m.2.1) ∧ w.cell? ⟨g, i * 3 + 2, none⟩ = some (.int .u8 m.2.2) := by
 obtain ⟨f0, f1, f2⟩ := flat3_get hm
 refine ⟨?_, ?_, ?_⟩ <;> (rw [hk.cell, List.getElem?_toArray]; assumption)
theorem law_ReduceMonos (a0 : Int) (ms : List (Int × Int × Int)) (w : World) (h0 : 0 ≤ a0) (h1 : a0 ≤ 255) (hl : ms.length = 5) (hb : B255 ms) :
    Calls Tryz.prog 12 #[.int .u8 a0, .agg (flat3 ms).toArray] w fun e w' => e = .returned (.bool true) ∧ Below w.heap.size w w' := by
 have ho := oOk_mod3 h0
 obtain ⟨o, rO⟩ : ∃ o, a0 % 3 = o := ⟨_, rfl⟩
 rw [rO] at ho
 have CS := aa law14_shown
 have HO := aa ho
 have HM := aa (moL_mo hb hl)
 have HBB := aa hb
 have HML := aa hl
 obtain ⟨F, hF⟩ := monos_red ho (moL_mo hb hl) (moL_len ms 5)
 have HF := aa hF
 have HG := aa (monos_groeb ho (moL_mo hb hl) (moL_len ms 5))
 clear hF ho hl hb
 obtain ⟨cs, hcs⟩ : ∃ cs, (flat3 ms).toArray = cs := ⟨_, rfl⟩
 rw [hcs]
 have HCS := aa hcs
 clear hcs
 go_enter Tryz.func12, Tryz.ntmps12
 go_upto_region 1 with (fail)
 refine wp_gen (fun W => Bo1 w.heap.size w.heap.size w W 100 cs) (Bo1.mk1 w _ _) ?_
 intro W BX
 go_upto_region 3 with (fail)
 refine wp_gen (fun W' => Below w.heap.size w W' ∧ Bk W' w.heap.size 100 cs ∧ OwnL W' w.heap.size (w.heap.size + 1) (.slice (some ⟨W.heap.size, 0, none⟩) 0 0) []) ⟨BX.out.below.alloc BX.out.below.size _, BX.out.k1.al _, OwnL.lit W _ _ BX.out.k1.lt⟩ ?_
 intro W3 H3
 have HK := aa (af H3.out.1 H3.out.2.1)
 have HW := aa H3.out.2.2
 clear H3 BX
 generalize W.heap.size = gw at HW ⊢
 go_wp2_with fail
 try rw [rO]
 clear rO
 go_loopw [6, 7] (fun v6 v7 wr => ∃ (i : Nat), v7 = .int .i64 i ∧ i ≤ 5 ∧ Hd (OwnL wr w.heap.size (w.heap.size + 1) v6 (moL ms i)) ∧ Hd (Below w.heap.size w wr ∧ Bk wr w.heap.size 100 cs)) (fun _ v _ => 5 - (intOf v).toNat)
 case atStart => exact ⟨0, rfl, by omega, HW, HK⟩
 case round =>
  clear HW HK
  obtain ⟨i, rfl, hi, HW, HK⟩ := hrel
  by_cases hlt : i < 5
  case pos =>
   have i1 : (i : Int) < 5 := by omega
   have i3 : (0 : Int) ≤ i := by omega
   obtain ⟨m, hm⟩ : ∃ m, ms[i]? = some m := ⟨_, ai (by have := HML.out; omega)⟩
   obtain ⟨q1, q2, q3⟩ := cells3 (by rw [HCS.out]; exact HK.out.2) hm
   have HSN : Hd (moL ms i ++ [[⟨ofD ((i : Int) + 2), ⟨(IntKind.i64.wrap m.1).tmod 9, (IntKind.i64.wrap m.2.1).tmod 9, (IntKind.i64.wrap m.2.2).tmod 9, 0⟩⟩]] = moL ms (i + 1)) := ⟨by
    rw [moL_succ]
    unfold moP mo9
    rw [List.getD_eq_getElem?_getD, hm]
    rfl⟩
   have CO : Hd (∀ W, Hd (Below wr.heap.size wr W) → Calls Tryz.prog 46 #[.int .i64 (IntKind.i64.wrap ((i : Int) + 2))] W fun e w' => ∃ x, e = .returned x ∧ RRat w' w.heap.size x (ofD ((i : Int) + 2)) ∧ Below W.heap.size W w') := ⟨by
    rw [show IntKind.i64.wrap ((i : Int) + 2) = (i : Int) + 2 by rw [IntKind.wrap_i64]; omega]
    exact fun W hB => rrat_Of w.heap.size _ W (ah HK.out.1.size hB.out.size) (by omega) (by omega)⟩
   have HLN : Hd ((moL ms i).length ≤ 1000) := ⟨by rw [moL_len]; omega⟩
   obtain ⟨Av, cv, rfl, -, -, -⟩ := HW.out.reads
   generalize ofD ((i : Int) + 2) = X at CO HSN
   clear hm
   go_wp2_with fail
   have SO := aa (fun W (hB : Below (w.heap.size + 1) wr W) => af (aa hB) (af ((hB.cell (p := ⟨w.heap.size, i * 3, none⟩) (Nat.lt_succ_self _)).trans q1) (af ((hB.cell (p := ⟨w.heap.size, i * 3 + 1, none⟩) (Nat.lt_succ_self _)).trans q2) ((hB.cell (p := ⟨w.heap.size, i * 3 + 2, none⟩) (Nat.lt_succ_self _)).trans q3))))
   have HZ : Hd (w.heap.size + 1 ≤ wr.heap.size) := ⟨HK.out.2.lt⟩
   go_region_held3 (fun w' => Hd (Below (w.heap.size + 1) wr w') ∧ w'.cell? ⟨w.heap.size, i * 3, none⟩ = some (.int .u8 m.1) ∧ w'.cell? ⟨w.heap.size, i * 3 + 1, none⟩ = some (.int .u8 m.2.1) ∧ w'.cell? ⟨w.heap.size, i * 3 + 2, none⟩ = some (.int .u8 m.2.2))
    (first
     | with_reducible exact SO.out _ (ag _ _)
     | with_reducible exact SO.out _ (ag _ _).drew
     | with_reducible exact SO.out _ HB6.out
     | with_reducible exact SO.out _ (HB6.out.alloc HB6z.out _)
     | with_reducible exact SO.out _ ((HB6.out.alloc HB6z.out _).alloc (HB7z.out _) _)
     | with_reducible exact SO.out _ hB8
     | fail)
    (first
     | (go_at_call 46; with_reducible refine (CO.out wr.drew ⟨(ag _ _).drew⟩).mono ?_; rintro e w5 ⟨x, rfl, hx, hb⟩
        have hB5 : Below wr.heap.size wr w5 := (ag wr.heap.size wr).drew.trans hb
        have HB5 := aa hB5
        have hx2 := hx
        obtain ⟨TA, tc, TB, td, rfl, _, _, _, _⟩ := hx2
        have T1 := rpol_one (t := ⟨X, ⟨(IntKind.i64.wrap m.1).tmod 9, (IntKind.i64.wrap m.2.1).tmod 9, (IntKind.i64.wrap m.2.2).tmod 9, 0⟩⟩) (rterm_of hx ⟨(IntKind.i64.wrap m.1).tmod 9, (IntKind.i64.wrap m.2.1).tmod 9, (IntKind.i64.wrap m.2.2).tmod 9, 0⟩) 68
        dsimp only at T1
        obtain ⟨tn, htn⟩ : ∃ tn : TermD, tn = ⟨X, ⟨(IntKind.i64.wrap m.1).tmod 9, (IntKind.i64.wrap m.2.1).tmod 9, (IntKind.i64.wrap m.2.2).tmod 9, 0⟩⟩ := ⟨_, rfl⟩
        rw [← htn] at T1
        have HT1 := aa T1
        have HSN2 : Hd (moL ms i ++ [[tn]] = moL ms (i + 1)) := ⟨by rw [htn]; exact HSN.out⟩
        have HB6 := aa (hB5.mono HZ.out)
        have HB6z : Hd (w.heap.size + 1 ≤ w5.heap.size) := ⟨ah HZ.out hB5.size⟩
        have HB7z : Hd (∀ o, w.heap.size + 1 ≤ (w5.alloc o).heap.size) := ⟨fun o => by rw [World.size_alloc]; have := HB6z.out; omega⟩
        have HB5y : Hd (∀ o, wr.heap.size ≤ (w5.alloc o).heap.size) := ⟨fun o => by rw [World.size_alloc]; have := hB5.size; omega⟩
        have HB8z : Hd (∀ o o2, w.heap.size + 1 ≤ ((w5.alloc o).alloc o2).heap.size) := ⟨fun o o2 => by rw [World.size_alloc, World.size_alloc]; have := HB6z.out; omega⟩
        clear T1 htn)
     | (refine step_append_L (w0 := wr) (p := [tn]) (B := w.heap.size + 1) rfl _ _ rfl rfl rfl (HW.out.up ((HB5.out.alloc HB5.out.size _).alloc (HB5y.out _) _)) (Bk.nw1 _ _ _ _) (HT1.out.up ((ag _ _).alloc (ae _) _)) (ae 1) ((Bk.new_ _ _ _).al _) HLN.out ((HB6.out.alloc HB6z.out _).alloc (HB7z.out _) _) (ae _) (HB8z.out _ _) (Nat.le_succ _) ?_; intro v' w8 hO8 hB8))
   all_goals
    have HO8 := aa hO8
    have HK8 := aa (af (HK.out.1.trans (hB8.mono (Nat.le_succ _))) (HK.out.2.below hB8 (Nat.lt_succ_self _)))
    rw [HSN2.out] at HO8
    clear hO8 hB8
    go_wp2_with fail
    go_roundw
    case measure => first | (simp [intOf]; done) | (simp [intOf]; omega)
    case rel => exact ⟨i + 1, by go_num, by omega, HO8, HK8⟩
  case neg =>
   have i1 : ¬ (i : Int) < 5 := by omega
   obtain rfl : i = 5 := by omega
   obtain ⟨Av, cv, rfl, hcv, hgv, hrv⟩ := HW.out.reads
   have HL5 := aa (moL_len ms 5)
   obtain ⟨gv, rfl⟩ := hgv (fun e => by have := HL5.out; rw [e] at this; cases this)
   obtain ⟨L, hL⟩ : ∃ L, moL ms 5 = L := ⟨_, rfl⟩
   rw [hL] at HL5 HF HG HM hrv hcv
   rw [hL]
   have HCP : Hd (∀ p ∈ L, CP o p) := ⟨fun p hp => (HM.out p hp).cp HO.out⟩
   have HCV := aa hcv
   have HR := aa hrv
   have HB := aa HK.out.1
   clear hL hcv hrv HW HK hgv HBB HML HCS hi hlt
   have CG := aa (reduce_Groebner w.heap.size gv 0 cv o L wr HO.out HB.out.size HR.out HCP.out (by rw [HL5.out]; decide))
   rw [HG.out] at CG
   dsimp only at CG
   go_wp2_with fail
   refine CG.out.mono ?_
   rintro e w1 ⟨rfl, hb⟩
   have HB1 := aa (goes HB.out hb)
   have HR1 := aa (HR.out.up hb)
   clear hb CG HB HR
   have CD := aa (reduce_Reduced w.heap.size gv 0 cv o L w1 HO.out HB1.out.size HR1.out HCP.out (by rw [HL5.out]; decide))
   go_wp2_with fail
   refine CD.out.mono ?_
   rintro e w2 ⟨A2, c2, R, E, rfl, hred, hc2, hr, hg, hb⟩
   have HB2 := aa (goes HB1.out hb)
   have HR2 := aa (HR1.out.up hb)
   have HQ2 := aa hr
   have hE : E = 0 := by rw [hred.1, HF.out.eq]
   subst hE
   have HOK := aa (red_is HO.out HCP.out hred)
   have HRC := aa (red_cp HCP.out hred).1
   obtain ⟨g, rfl⟩ := hg rfl
   have hp := (hred.2.2 rfl).1
   rw [HF.out.eq] at hp
   dsimp only at hp
   have HMR : Hd (∀ p ∈ R, Mo p) := ⟨fun p hp' => HF.out.mo p (hp.mem_iff.1 hp')⟩
   have HLR : Hd (R.length ≤ 5) := ⟨by rw [hp.length_eq]; exact HF.out.len⟩
   have HI1 : Hd (∀ p ∈ L, (splitD o p R).1 = 0 ∧ (splitD o p R).2.2 = []) := ⟨fun p hp' => mono_rest HO.out (HM.out p hp') HMR.out (by have := HLR.out; omega) (by
    obtain ⟨q, hq, hd⟩ := HF.out.cov p hp'
    exact ⟨q, hp.mem_iff.2 hq, hd⟩)⟩
   have HI2 : Hd (∀ p ∈ R, (splitD o p L).1 = 0 ∧ (splitD o p L).2.2 = []) := ⟨fun p hp' => mono_rest HO.out (HMR.out p hp') HM.out (by have := HL5.out; omega) (HF.out.back p (hp.mem_iff.1 hp'))⟩
   have hne : R ≠ [] := fun e => by
    subst e
    have hL0 : L ≠ [] := fun e => by have := HL5.out; rw [e] at this; cases this
    obtain ⟨x, hx⟩ := List.exists_mem_of_ne_nil _ hL0
    obtain ⟨q, hq, _⟩ := HF.out.cov x hx
    have := hp.mem_iff.2 hq
    cases this
   have hpos : (0 : Int) < R.length := by have := List.length_pos_iff.2 hne; omega
   have hpos2 : 0 < R.length := List.length_pos_iff.2 hne
   have HS1 : Hd (shortPs L) := ⟨by have := HL5.out; omega, fun p hp => cp_short (HCP.out p hp)⟩
   have HS2 : Hd (shortPs R) := ⟨by have := HLR.out; omega, fun p hp => cp_short (HRC.out p hp)⟩
   have CW1 := aa (reduce_Within w.heap.size o (some ⟨gv, 0, none⟩) (some ⟨g, 0, none⟩) cv c2 L R w2 HO.out HB2.out.size HR2.out HCP.out (by rw [HL5.out]; decide) HQ2.out hc2 HS2.out HI1.out)
   clear hred hr hg hb CD HR1 HB1 hp hc2 hne HF HG HI1
   go_wp2_with fail
   refine CW1.out.mono ?_
   rintro e w3 ⟨rfl, hb⟩
   have HB3 := aa (goes HB2.out hb)
   have HR3 := aa (HR2.out.up hb)
   have HQ3 := aa (HQ2.out.up hb)
   clear hb CW1 HR2 HQ2 HB2
   have CW2 := aa (reduce_Within w.heap.size o (some ⟨g, 0, none⟩) (some ⟨gv, 0, none⟩) c2 cv R L w3 HO.out HB3.out.size HQ3.out HRC.out (by have := HLR.out; omega) HR3.out HCV.out HS1.out HI2.out)
   clear HI2
   go_wp2_with fail
   refine CW2.out.mono ?_
   rintro e w4 ⟨rfl, hb⟩
   have HB4 := aa (goes HB3.out hb)
   have HQ4 := aa (HQ3.out.up hb)
   clear hb CW2 HR3 HQ3 HB3
   have CI := aa (reduce_Is w.heap.size g 0 c2 o R w4 HO.out HB4.out.size HQ4.out HRC.out (by have := HLR.out; omega) HOK.out)
   go_wp2_with fail
   refine CI.out.mono ?_
   rintro e w5 ⟨rfl, hb⟩
   have HB5 := aa (goes HB4.out hb)
   clear hb CI HQ4 HB4
   go_wp2_with fail
   refine (CS.out _).mono ?_
   rintro e w6 ⟨rfl, hb⟩
   have HB6 := aa (goes HB5.out hb)
   clear hb
   go_wp2_with fail
   go_ret
   exact ⟨rfl, HB6.out⟩
end Go.Proofs.YtgjkgkgieeoalaaGreat
