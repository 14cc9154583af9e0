/- Parts of the proof, joined: each theorem says what it shows. -/
import Derived.Test.YtgjkgkgieeoalaaGreatC30
import Derived.Test.YtgjkgkgieeoalaaGreatC39
import Derived.Test.YtgjkgkgieeoalaaGreatC21
import Derived.Test.YtgjkgkgieeoalaaGreatC33
import Derived.Test.YtgjkgkgieeoalaaGreatC35
import Derived.Test.YtgjkgkgieeoalaaGreatC38
import Derived.Test.YtgjkgkgieeoalaaGreatC29
set_option linter.unusedVariables false
set_option linter.unusedSimpArgs false
set_option maxHeartbeats 24000000
set_option maxRecDepth 100000
namespace Go.Proofs.YtgjkgkgieeoalaaGreat
open Go.RowKit
def qT (n : Int) (m : Int × Int × Int) : TermD := ⟨ofD n, ⟨m.1.tmod 3, m.2.1.tmod 3, m.2.2.tmod 3, 0⟩⟩
def smQ (ns : List Int) (ms : List (Int × Int × Int)) : List TermD := ((ns.zip ms).take 4).map fun x => qT x.1 x.2
def madeQ (o : Int) (ns : List Int) (ms : List (Int × Int × Int)) : List TermD := (polMake o (smQ ns ms)).2
theorem qT_sm {n : Int} {m : Int × Int × Int} (hn : -128 ≤ n ∧ n ≤ 127) (hm : (0 ≤ m.1 ∧ m.1 ≤ 255) ∧ (0 ≤ m.2.1 ∧ m.2.1 ≤ 255) ∧ (0 ≤ m.2.2 ∧ m.2.2 ≤ 255)) : Ints 128 [qT n m] ∧ Low 3 [qT n m] := by
 have key : ∀ x : Int, 0 ≤ x → 0 ≤ x.tmod 3 ∧ x.tmod 3 ≤ 3 := fun x hx => by
  rw [Int.tmod_eq_emod_of_nonneg hx]; omega
 have k1 := key _ hm.1.1
 have k2 := key _ hm.2.1.1
 have k3 := key _ hm.2.2.1
 refine ⟨(Ints.one (monMay_low ?_)).le (by omega), fun s hs => ?_⟩
 ·simp only []
  omega
 ·simp only [List.mem_cons, List.not_mem_nil, or_false] at hs
  rw [hs]
  simp only [qT]
  omega
theorem smQ_sm {w : World} {A B : Option Addr} {c d : Nat} {ns : List Int} {ms : List (Int × Int × Int)} (h : RSm w A c B d ns ms) : Sm (smQ ns ms) := by
 have hb : ∀ x ∈ (ns.zip ms).take 4, (-128 ≤ x.1 ∧ x.1 ≤ 127) ∧ (0 ≤ x.2.1 ∧ x.2.1 ≤ 255) ∧ (0 ≤ x.2.2.1 ∧ x.2.2.1 ≤ 255) ∧ (0 ≤ x.2.2.2 ∧ x.2.2.2 ≤ 255) := fun x hx => by
  have hx := List.mem_of_mem_take hx
  have h1 := List.of_mem_zip (a := x.1) (b := x.2) hx
  exact ⟨h.nb _ h1.1, h.mb _ h1.2⟩
 have hl : ((ns.zip ms).take 4).length ≤ 10 := by rw [List.length_take]; omega
 unfold smQ
 generalize (ns.zip ms).take 4 = l at hb hl ⊢
 have key : Ints (128 * l.length) (l.map fun x => qT x.1 x.2) ∧ Low 3 (l.map fun x => qT x.1 x.2) := by
  clear hl
  induction l with
  | nil => exact ⟨Ints.nil, fun s hs => by cases hs⟩
  | cons x l ih =>
    obtain ⟨h1, h2⟩ := ih fun y hy => hb y (by simp [hy])
    obtain ⟨h3, h4⟩ := qT_sm (hb x (by simp)).1 (hb x (by simp)).2
    refine ⟨?_, h4.app h2⟩
    have := h3.app h1
    rw [List.length_cons, Nat.mul_add, Nat.add_comm (128 * l.length)]
    exact this
 exact ⟨key.1.le (by omega), key.2, by rw [List.length_map]; exact hl⟩
theorem madeQ_sm {o : Int} (ho : oOk o) {w : World} {A B : Option Addr} {c d : Nat} {ns : List Int} {ms : List (Int × Int × Int)} (h : RSm w A c B d ns ms) : SmP o (madeQ o ns ms) := ((smQ_sm h).make ho).1
theorem smQ_take {ns : List Int} {ms : List (Int × Int × Int)} {i : Nat} {n : Int} {m : Int × Int × Int} (hn : ns[i]? = some n) (hm : ms[i]? = some m) (hi : i < 4) : (smQ ns ms).take i ++ [qT n m] = (smQ ns ms).take (i + 1) := by
 have h : (smQ ns ms)[i]? = some (qT n m) := by
  unfold smQ
  rw [List.getElem?_map, List.getElem?_take, if_pos hi, List.getElem?_zip_eq_some (z := (n, m)) |>.2 ⟨hn, hm⟩]; rfl
 rw [List.take_add_one, h]; rfl
theorem smQ_end {ns : List Int} {ms : List (Int × Int × Int)} {i : Nat} (h : ¬ i < ns.length ∨ ¬ i < ms.length ∨ ¬ i < 4) : (smQ ns ms).take i = smQ ns ms := by
 refine List.take_of_length_le ?_
 unfold smQ
 rw [List.length_map, List.length_take, List.length_zip]
 omega
theorem law14_made (b0 : Nat) (order : Int) (A B : Option Addr) (c d : Nat) (ns : List Int) (ms : List (Int × Int × Int)) (w : World) (hb0 : b0 ≤ w.heap.size) (h : RSm w A c B d ns ms) :
    Calls Tryz.prog 38 #[.int .i64 order, .agg #[.slice A ns.length c, .slice B ms.length d]] w fun e w' => ∃ A' c', e = .returned (.slice A' (madeQ order ns ms).length c') ∧
     (madeQ order ns ms).length ≤ c' ∧ RPol w' b0 A' (madeQ order ns ms) ∧ Below w.heap.size w w' := by
 obtain ⟨D, hD⟩ : ∃ D, madeQ order ns ms = D := ⟨_, rfl⟩
 rw [hD]
 have HD := Hd.mk hD
 clear hD
 have HR := Hd.mk h
 have HB0 := Hd.mk hb0
 clear h hb0
 go_enter Tryz.func38, Tryz.ntmps38
 go_upto_region 2 with (fail)
 refine wp_gen (fun W => Below w.heap.size w W ∧ Bk W w.heap.size 83 #[.slice A ns.length c, .slice B ms.length d] ∧ OwnT W b0 (w.heap.size + 1) (.slice (some ⟨w.heap.size + 1, 0, none⟩) 0 0) []) ?_ ?_
 ·refine ⟨((Below.refl _ _).alloc (Nat.le_refl _) _).alloc (by simp) _, (Bk.new_ _ _ _).al _, ?_⟩
  have := ownT_lit (w.alloc (Obj.cells #[.slice A ns.length c, .slice B ms.length d] 83)) b0 (w.heap.size + 1) (by simp)
  simpa using this
 intro W0 hW
 have HK := Hd.mk (And.intro hW.out.1 hW.out.2.1)
 have HO := Hd.mk hW.out.2.2
 clear hW
 go_wp2_with fail
 go_loopw [5, 6] (fun v5 v6 wr => ∃ (i : Nat) (acc : List TermD), v6 = .int .i64 i ∧ i ≤ 4 ∧ acc.length = i ∧ Hd (acc = (smQ ns ms).take i) ∧ Hd (OwnT wr b0 (w.heap.size + 1) v5 acc) ∧ Hd (Below w.heap.size w wr ∧ Bk wr w.heap.size 83 #[.slice A ns.length c, .slice B ms.length d])) (fun _ v _ => 4 - (intOf v).toNat)
 case atStart => exact ⟨0, [], rfl, by omega, rfl, ⟨rfl⟩, HO, HK⟩
 case round =>
  clear HO HK
  obtain ⟨i, acc, rfl, hi, hfl, HFA, HO, HK⟩ := hrel
  obtain ⟨Av, cv, rfl, hcv, _, hrv⟩ := HO.out.reads
  have HRV := Hd.mk hrv
  have HLN := Hd.mk hfl
  obtain ⟨p0, p1⟩ := HK.out.2.two'
  clear hrv hfl
  by_cases h1 : i < ns.length
  ·have i1 : (i : Int) < ns.length := by omega
   by_cases h2 : i < ms.length
   ·have i2 : (i : Int) < ms.length := by omega
    by_cases h3 : i < 4
    ·have i3 : (i : Int) < 4 := by omega
     obtain ⟨n, hn⟩ : ∃ n, ns[i]? = some n := ⟨_, List.getElem?_eq_getElem h1⟩
     obtain ⟨m, hm⟩ : ∃ m, ms[i]? = some m := ⟨_, List.getElem?_eq_getElem h2⟩
     obtain ⟨ad, eA, hab, hca⟩ := (HR.out.n.below HK.out.1).2 (by omega)
     obtain ⟨bd, eB, hbb, hcb⟩ := (HR.out.m.below HK.out.1).2 (by omega)
     have q0 := hca i (.int .i8 n) (by rw [ints_get _ _ _ h1, List.getD_eq_getElem?_getD, hn]; rfl)
     obtain ⟨f0, f1, f2⟩ := flat3_get hm
     have q1 := hcb _ _ f0
     have q2 := hcb _ _ f1
     have q3 := hcb _ _ f2
     rw [add_pos _ _ 1 (by omega)] at q2
     rw [add_pos _ _ 2 (by omega)] at q3
     subst eA eB
     have HN := Hd.mk (And.intro hn hm)
     have HFL : Hd (acc ++ [qT n m] = (smQ ns ms).take (i + 1)) := ⟨by rw [HFA.out]; exact smQ_take hn hm h3⟩
     have nb := HR.out.nb n (List.mem_of_getElem? hn)
     have mb := HR.out.mb m (List.mem_of_getElem? hm)
     have v0 : IntKind.i64.wrap n = n := by rw [IntKind.wrap_i64]; omega
     have v1 : IntKind.i64.wrap m.1 = m.1 := by rw [IntKind.wrap_i64]; omega
     have v2 : IntKind.i64.wrap m.2.1 = m.2.1 := by rw [IntKind.wrap_i64]; omega
     have v3 : IntKind.i64.wrap m.2.2 = m.2.2 := by rw [IntKind.wrap_i64]; omega
     have CO : Hd (∀ W, Hd (Below wr.heap.size wr W) → Calls Tryz.prog 46 #[.int .i64 (IntKind.i64.wrap n)] W fun e w' => ∃ x, e = .returned x ∧ RRat w' b0 x (ofD n) ∧ Below W.heap.size W w') := ⟨by
      rw [v0]
      exact fun W hB => rrat_Of b0 n W (Nat.le_trans HB0.out (Nat.le_trans HK.out.1.size hB.out.size)) (by omega) (by omega)⟩
     have HFL' : Hd (acc ++ [⟨ofD n, ⟨(IntKind.i64.wrap m.1).tmod 3, (IntKind.i64.wrap m.2.1).tmod 3, (IntKind.i64.wrap m.2.2).tmod 3, 0⟩⟩] = (smQ ns ms).take (i + 1)) := ⟨by rw [v1, v2, v3]; exact HFL.out⟩
     generalize ofD n = X at CO HFL'
     clear v0 v1 v2 v3 nb mb
     clear hn hm f0 f1 f2 hca hcb
     go_wp2_with fail
     have b1 : (ad.add i).block < w.heap.size + 1 := by rw [add_block]; omega
     have b2 : (bd.add (i * 3)).block < w.heap.size + 1 := by rw [add_block]; omega
     have SO := Hd.mk (fun W (hB : Below (w.heap.size + 1) wr W) => And.intro (Hd.mk hB) (And.intro ((hB.cell (p := ⟨w.heap.size, 0, none⟩) (Nat.lt_succ_self _)).trans p0) (And.intro ((hB.cell (p := ⟨w.heap.size, 1, none⟩) (Nat.lt_succ_self _)).trans p1) (And.intro ((hB.cell b1).trans q0) (And.intro ((hB.cell b2).trans q1) (And.intro ((hB.cell (p := ⟨(bd.add (i * 3)).block, (bd.add (i * 3)).off + 1, none⟩) b2).trans q2) ((hB.cell (p := ⟨(bd.add (i * 3)).block, (bd.add (i * 3)).off + 2, none⟩) b2).trans q3)))))))
     have HZ : Hd (w.heap.size + 1 ≤ wr.heap.size) := ⟨HK.out.2.lt⟩
     clear b1 b2
     go_region_held3 (fun w' => Hd (Below (w.heap.size + 1) wr w') ∧ w'.cell? ⟨w.heap.size, 0, none⟩ = some (.slice (some ad) ns.length c) ∧ w'.cell? ⟨w.heap.size, 1, none⟩ = some (.slice (some bd) ms.length d) ∧ w'.cell? (ad.add i) = some (.int .i8 n) ∧ w'.cell? (bd.add (i * 3)) = some (.int .u8 m.1) ∧ w'.cell? ⟨(bd.add (i * 3)).block, (bd.add (i * 3)).off + 1, none⟩ = some (.int .u8 m.2.1) ∧ w'.cell? ⟨(bd.add (i * 3)).block, (bd.add (i * 3)).off + 2, none⟩ = some (.int .u8 m.2.2))
      (first
       | with_reducible exact SO.out _ (Below.refl _ _)
       | with_reducible exact SO.out _ (Below.refl _ _).drew
       | with_reducible exact SO.out _ HB6.out
       | with_reducible exact SO.out _ (HB6.out.alloc HB6z.out _)
       | with_reducible exact SO.out _ AP.below
       | fail)
      (first
       | (go_at_call 46; with_reducible refine (CO.out wr.drew ⟨(Below.refl _ _).drew⟩).mono ?_; rintro e w5 ⟨x, rfl, hx, hb⟩
          have hB5 : Below wr.heap.size wr w5 := (Below.refl wr.heap.size wr).drew.trans hb
          have HB5 := Hd.mk hB5
          have hx2 := hx
          obtain ⟨TA, tc, TB, td, rfl, _, _, _, _⟩ := hx2
          have T1 := rpol_one (t := ⟨X, ⟨(IntKind.i64.wrap m.1).tmod 3, (IntKind.i64.wrap m.2.1).tmod 3, (IntKind.i64.wrap m.2.2).tmod 3, 0⟩⟩) (rterm_of hx ⟨(IntKind.i64.wrap m.1).tmod 3, (IntKind.i64.wrap m.2.1).tmod 3, (IntKind.i64.wrap m.2.2).tmod 3, 0⟩) 68
          dsimp only at T1
          obtain ⟨tn, htn⟩ : ∃ tn : TermD, tn = ⟨X, ⟨(IntKind.i64.wrap m.1).tmod 3, (IntKind.i64.wrap m.2.1).tmod 3, (IntKind.i64.wrap m.2.2).tmod 3, 0⟩⟩ := ⟨_, rfl⟩
          rw [← htn] at T1
          have HT1 := Hd.mk T1
          have HFL2 : Hd (acc ++ [tn] = (smQ ns ms).take (i + 1)) := ⟨by rw [htn]; exact HFL'.out⟩
          have XL : Hd (acc.length + [tn].length ≤ 1000000) := ⟨by have := HLN.out; simp; omega⟩
          have HB6 := Hd.mk (hB5.mono HZ.out)
          have HB6z : Hd (w.heap.size + 1 ≤ w5.heap.size) := ⟨Nat.le_trans HZ.out hB5.size⟩
          clear T1 htn)
       | (refine step_append_T (w0 := wr) (us := [tn]) (B := w.heap.size + 1) rfl _ _ 24 rfl Tryz.slTerms rfl rfl rfl (HO.out.up (hB5.alloc hB5.size _)) HT1.out (Nat.le_succ_of_le HB0.out) XL.out (HB6.out.alloc HB6z.out _) (Nat.le_refl _) (Nat.le_trans HZ.out (hB5.alloc hB5.size _).size) ?_; intro v' w8 AP))
     all_goals
      have HAP := Hd.mk AP
      have HK8 := Hd.mk (And.intro (HK.out.1.trans (AP.below.mono (Nat.le_succ _))) (AP.bk (HK.out.2.up (hB5.alloc hB5.size _)) (Nat.lt_succ_self _)))
      have hl2 : (acc ++ [tn]).length = i + 1 := by rw [List.length_append, HLN.out]; rfl
      clear AP
      go_wp2_with fail
      go_roundw
      case measure => first | (simp [intOf]; done) | (simp [intOf]; omega)
      case rel => exact ⟨i + 1, _, by go_num, by omega, hl2, HFL2, ⟨HAP.out.own⟩, HK8⟩
    ·have HE : Hd (acc = smQ ns ms) := ⟨HFA.out.trans (smQ_end (.inr (.inr h3)))⟩
     have i3 : ¬ (i : Int) < 4 := by omega
     have HM : Hd ((polMake order acc).2 = D) := ⟨by rw [HE.out]; exact HD.out⟩
     have CM := Hd.mk (rpol_Make b0 order Av cv acc wr (Nat.le_trans HB0.out HK.out.1.size) HRV.out hcv (by have := HLN.out; omega) (by rw [HE.out]; exact (smQ_sm HR.out).ints.short (by decide) (by have := (smQ_sm HR.out).len; omega)))
     rw [HM.out] at CM
     go_wp2_with fail
     refine CM.out.mono ?_
     rintro e w6 ⟨A6, c6, rfl, hc6, hr6, hb6⟩
     have HB6 := Hd.mk (goes HK.out.1 hb6)
     have HR6 := Hd.mk hr6
     clear hb6 hr6
     go_wp2_with fail
     go_ret
     exact ⟨A6, c6, rfl, hc6, HR6.out, HB6.out⟩
   ·have HE : Hd (acc = smQ ns ms) := ⟨HFA.out.trans (smQ_end (.inr (.inl h2)))⟩
    have i2 : ¬ (i : Int) < ms.length := by omega
    have HM : Hd ((polMake order acc).2 = D) := ⟨by rw [HE.out]; exact HD.out⟩
    have CM := Hd.mk (rpol_Make b0 order Av cv acc wr (Nat.le_trans HB0.out HK.out.1.size) HRV.out hcv (by have := HLN.out; omega) (by rw [HE.out]; exact (smQ_sm HR.out).ints.short (by decide) (by have := (smQ_sm HR.out).len; omega)))
    rw [HM.out] at CM
    go_wp2_with fail
    refine CM.out.mono ?_
    rintro e w6 ⟨A6, c6, rfl, hc6, hr6, hb6⟩
    have HB6 := Hd.mk (goes HK.out.1 hb6)
    have HR6 := Hd.mk hr6
    clear hb6 hr6
    go_wp2_with fail
    go_ret
    exact ⟨A6, c6, rfl, hc6, HR6.out, HB6.out⟩
  ·have HE : Hd (acc = smQ ns ms) := ⟨HFA.out.trans (smQ_end (.inl h1))⟩
   have i1 : ¬ (i : Int) < ns.length := by omega
   have HM : Hd ((polMake order acc).2 = D) := ⟨by rw [HE.out]; exact HD.out⟩
   have CM := Hd.mk (rpol_Make b0 order Av cv acc wr (Nat.le_trans HB0.out HK.out.1.size) HRV.out hcv (by have := HLN.out; omega) (by rw [HE.out]; exact (smQ_sm HR.out).ints.short (by decide) (by have := (smQ_sm HR.out).len; omega)))
   rw [HM.out] at CM
   go_wp2_with fail
   refine CM.out.mono ?_
   rintro e w6 ⟨A6, c6, rfl, hc6, hr6, hb6⟩
   have HB6 := Hd.mk (goes HK.out.1 hb6)
   have HR6 := Hd.mk hr6
   clear hb6 hr6
   go_wp2_with fail
   go_ret
   exact ⟨A6, c6, rfl, hc6, HR6.out, HB6.out⟩
theorem same_list (b0 : Nat) (L M : Option Addr) (cl cm : Nat) (l m : List (List TermD)) (w : World) (h : RPols w b0 L l) (hs : shortPs l) (h' : RPols w b0 M m) (hs' : shortPs m) :
    Calls Tryz.prog 41 #[.slice L l.length cl, .slice M m.length cm] w fun e w' => e = .returned (.bool (decide (l = m))) ∧ Below w.heap.size w w' := by
 have hl := hs.1
 have hm := hs'.1
 have HP := Hd.mk h
 have HS := Hd.mk hs
 have HP' := Hd.mk h'
 have HS' := Hd.mk hs'
 clear h hs h' hs'
 by_cases hlen : l.length = m.length
 ·have e1 : ((l.length : Int) != (m.length : Int)) = false := by rw [bne_eq_false_iff_eq]; omega
  have HLn := Hd.mk hlen
  clear hlen
  go_enter Tryz.func41, Tryz.ntmps41
  go_wp2_with fail
  go_loopw [5] (fun v wr => ∃ i : Nat, v = .int .i64 i ∧ i ≤ l.length ∧ Hd (Below w.heap.size w wr) ∧ Hd (l.take i = m.take i)) (fun v _ => l.length - (intOf v).toNat)
  case atStart => exact ⟨0, rfl, by omega, ⟨.refl _ _⟩, ⟨rfl⟩⟩
  case round =>
   obtain ⟨i, rfl, hi, hb, ha⟩ := hrel
   by_cases hlt : i < l.length
   ·have hlt2 : i < m.length := by have := HLn.out; omega
    have i1 : (i : Int) < l.length := by omega
    have i2 : (i : Int) < m.length := by omega
    have i3 : (0 : Int) ≤ i := by omega
    obtain ⟨la, a, pc, p, rfl, -, hti, hcell, hpc, hrp⟩ := (HP.out.up hb.out).get hlt
    obtain ⟨ma, b, qc, q, rfl, -, hti', hcell', hqc, hrq⟩ := (HP'.out.up hb.out).get hlt2
    have HG : Hd (l[i] = p ∧ m[i] = q) := ⟨by
     have e1 := hti.out; have e2 := hti'.out
     rw [List.getElem?_eq_getElem hlt] at e1; rw [List.getElem?_eq_getElem hlt2] at e2
     exact ⟨Option.some.inj e1, Option.some.inj e2⟩⟩
    have HN := Hd.mk (show p ≠ q → decide (l = m) = false from fun hne => decide_eq_false fun e => hne (by rw [← HG.out.1, ← HG.out.2]; subst e; rfl))
    have HQ := Hd.mk (show p = q → l.take (i + 1) = m.take (i + 1) from fun e => by
     rw [List.take_succ_eq_append_getElem hlt, List.take_succ_eq_append_getElem hlt2, ha.out, HG.out.1, HG.out.2, e])
    have CS := Hd.mk (fun W (hB : Below wr.heap.size wr W) => rpol_Same b0 a b pc qc p q W (hrp.out.up hB) hpc (HS.out.2 _ (List.mem_of_getElem? hti.out)) (hrq.out.up hB) hqc (HS'.out.2 _ (List.mem_of_getElem? hti'.out)))
    have SO := Hd.mk (fun W (hB : Below wr.heap.size wr W) => And.intro (Hd.mk hB) (And.intro (cell_up hcell hB) (cell_up hcell' hB)))
    obtain ⟨E, hE⟩ : ∃ E, decide (p = q) = E := ⟨_, rfl⟩
    rw [hE] at CS
    have HEQ := Hd.mk hE
    clear hti hti' hrp hrq HG hE
    cases E
    ·have HF := Hd.mk (HN.out (of_decide_eq_false HEQ.out))
     go_wp2_with fail
     go_region_held3 (fun W => Hd (Below wr.heap.size wr W) ∧ W.cell? (la.add i) = some (.slice a p.length pc) ∧ W.cell? (ma.add i) = some (.slice b q.length qc))
      (first
       | with_reducible exact SO.out _ (.refl _ _)
       | with_reducible exact SO.out _ (Below.refl _ _).drew
       | with_reducible exact SO.out _ hB5
       | fail)
      (first
       | (go_at_call 80; have hB := ‹Hd (Below wr.heap.size wr _) ∧ _›.1; with_reducible refine (CS.out _ hB.out).mono ?_; rintro e w5 ⟨rfl, hb5⟩
          have hB5 := hB.out.trans (hb5.mono hB.out.size)))
     all_goals
      go_wp2_with fail
      go_ret
      exact ⟨retBool HF.out.symm, goes hb.out hB5⟩
    ·have HF := Hd.mk (HQ.out (of_decide_eq_true HEQ.out))
     go_wp2_with fail
     go_region_held3 (fun W => Hd (Below wr.heap.size wr W) ∧ W.cell? (la.add i) = some (.slice a p.length pc) ∧ W.cell? (ma.add i) = some (.slice b q.length qc))
      (first
       | with_reducible exact SO.out _ (.refl _ _)
       | with_reducible exact SO.out _ (Below.refl _ _).drew
       | with_reducible exact SO.out _ hB5
       | fail)
      (first
       | (go_at_call 80; have hB := ‹Hd (Below wr.heap.size wr _) ∧ _›.1; with_reducible refine (CS.out _ hB.out).mono ?_; rintro e w5 ⟨rfl, hb5⟩
          have hB5 := hB.out.trans (hb5.mono hB.out.size)))
     all_goals
      go_wp2_with fail
      go_roundw
      case measure => first | (simp [intOf]; done) | (simp [intOf]; omega)
      case rel => exact ⟨i + 1, by go_num, by omega, ⟨goes hb.out hB5⟩, HF⟩
   ·obtain rfl : i = l.length := by omega
    have HF : Hd (l = m) := ⟨by have := ha.out; rwa [List.take_length, HLn.out, List.take_length] at this⟩
    go_wp2_with fail
    go_ret
    exact ⟨retBool (decide_eq_true HF.out).symm, hb.out⟩
 ·have e1 : ((l.length : Int) != (m.length : Int)) = true := by rw [bne_iff_ne]; omega
  have HLn := Hd.mk hlen
  clear hlen
  go_enter Tryz.func41, Tryz.ntmps41
  go_wp2_with fail
  go_ret
  exact ⟨retBool (decide_eq_false fun e => HLn.out (by rw [e])).symm, .refl _ _⟩
end Go.Proofs.YtgjkgkgieeoalaaGreat
namespace Go.Proofs.YtgjkgkgieeoalaaGreat
open Go.RowKit Go.PlainAid
theorem rpols_bk1 {W : World} {b0 g : Nat} {t : TypeId} {p : List TermD} {A : Option Addr} {c : Nat} (hk : Bk W g t #[.slice A p.length c]) (h : RPol W b0 A p) (hc : p.length ≤ c) : RPols W b0 (some ⟨g, 0, none⟩) [p] := by
 refine ⟨_, Rd.of_bk hk 1 1 rfl, fun j r hj => ?_⟩
 match j, hj with
 | 0, hj => injection hj with hj; subst hj; exact ⟨_, _, rfl, hc, h⟩
 | n + 1, hj => cases hj
def s14A : ByteArray := ⟨#[50, 42, 120, 32, 45, 32, 50, 42, 121]⟩
def s14B : ByteArray := ⟨#[120, 94, 50]⟩
def s14C : ByteArray := ⟨#[120, 32, 45, 32, 121]⟩
theorem parse14A : parseD 0 s14A = (0, [⟨ofD 2, ⟨1, 0, 0, 0⟩⟩, ⟨ofD (-2), ⟨0, 1, 0, 0⟩⟩]) := by kernel_rfl
theorem parse14B : parseD 0 s14B = (0, [⟨ofD 1, ⟨2, 0, 0, 0⟩⟩]) := by kernel_rfl
theorem parse14C : parseD 0 s14C = (0, [⟨ofD 1, ⟨1, 0, 0, 0⟩⟩, ⟨ofD (-1), ⟨0, 1, 0, 0⟩⟩]) := by kernel_rfl
theorem red14 : redD 0 [[⟨ofD 2, ⟨1, 0, 0, 0⟩⟩, ⟨ofD (-2), ⟨0, 1, 0, 0⟩⟩], [⟨ofD 1, ⟨2, 0, 0, 0⟩⟩]] = (0, [[⟨ofD 1, ⟨1, 0, 0, 0⟩⟩, ⟨ofD (-1), ⟨0, 1, 0, 0⟩⟩]]) := by kernel_rfl
theorem sm14A : Sm [qT 2 (1, 0, 0), qT (-2) (0, 1, 0)] := by
 obtain ⟨a1, a2⟩ := qT_sm (n := 2) (m := (1, 0, 0)) ⟨by decide, by decide⟩ ⟨⟨by decide, by decide⟩, ⟨by decide, by decide⟩, ⟨by decide, by decide⟩⟩
 obtain ⟨b1, b2⟩ := qT_sm (n := -2) (m := (0, 1, 0)) ⟨by decide, by decide⟩ ⟨⟨by decide, by decide⟩, ⟨by decide, by decide⟩, ⟨by decide, by decide⟩⟩
 exact ⟨(a1.app b1).le (by decide), a2.app b2, by simp⟩
theorem sm14B : Sm [qT 1 (2, 0, 0)] := by
 obtain ⟨a1, a2⟩ := qT_sm (n := 1) (m := (2, 0, 0)) ⟨by decide, by decide⟩ ⟨⟨by decide, by decide⟩, ⟨by decide, by decide⟩, ⟨by decide, by decide⟩⟩
 exact ⟨a1.le (by decide), a2, by simp⟩
theorem ok0 : oOk 0 := ⟨by decide, by decide⟩
theorem mk14A : (polMake 0 [qT 2 (1, 0, 0), qT (-2) (0, 1, 0)]).2 = [⟨ofD 2, ⟨1, 0, 0, 0⟩⟩, ⟨ofD (-2), ⟨0, 1, 0, 0⟩⟩] := by kernel_rfl
theorem mk14B : (polMake 0 [qT 1 (2, 0, 0)]).2 = [⟨ofD 1, ⟨2, 0, 0, 0⟩⟩] := by kernel_rfl
theorem cp14A : CP 0 [⟨ofD 2, ⟨1, 0, 0, 0⟩⟩, ⟨ofD (-2), ⟨0, 1, 0, 0⟩⟩] := by
 have := (sm14A.make ok0).1.cp
 rwa [mk14A] at this
theorem cp14B : CP 0 [⟨ofD 1, ⟨2, 0, 0, 0⟩⟩] := by
 have := (sm14B.make ok0).1.cp
 rwa [mk14B] at this
theorem short14 {a b : Int} {m m' : MonD} (ha : a.natAbs < 18446744073709551616) (hb : b.natAbs < 18446744073709551616) : shortP [⟨ofD a, m⟩, ⟨ofD b, m'⟩] := ⟨by simp, fun s hs => by
 simp only [List.mem_cons, List.not_mem_nil, or_false] at hs
 rcases hs with rfl | rfl
 ·exact ofD_short a ha
 ·exact ofD_short b hb⟩
theorem shortP.one {p : List TermD} (h : shortP p) : shortPs [p] := ⟨by simp, fun q hq => by
 simp only [List.mem_cons, List.not_mem_nil, or_false] at hq
 rw [hq]; exact h⟩
theorem same_14 {b0 : Nat} {A B : Option Addr} {c d : Nat} {X : List TermD} {w : World} (h : RPols w b0 A [X]) (hs : shortP X) (h' : RPols w b0 B [X]) :
    Calls Tryz.prog 41 #[.slice A 1 c, .slice B 1 d] w fun e w' => e = .returned (.bool true) ∧ Below w.heap.size w w' := by
 have := same_list b0 A B c d [X] [X] w h hs.one h' hs.one
 rwa [decide_eq_true rfl] at this
theorem red_one {o E : Int} {l R : List (List TermD)} {X : List TermD} (h : RedIs o l E R) (hr : redD o l = (0, [X])) : E = 0 ∧ R = [X] := by
 obtain ⟨e1, -, e2⟩ := h
 rw [hr] at e1 e2
 exact ⟨e1, List.perm_singleton.1 (e2 e1).1⟩
theorem law14_text (b0 : Nat) (s : ByteArray) (w : World) (hb0 : b0 ≤ w.heap.size) (hs : s.size ≤ 1000000) {X : List TermD} (hX : parseD 0 s = (0, X)) :
    Calls Tryz.prog 116 #[.string s] w fun e w' => ∃ A c, e = .returned (.slice A X.length c) ∧ X.length ≤ c ∧ RPol w' b0 A X ∧ Below w.heap.size w w' := by
 have CP := Hd.mk (ref_Parse b0 0 s w hb0 hs)
 rw [hX] at CP
 clear hX
 go_enter Tryz.func116, Tryz.ntmps116
 go_wp2_with fail
 refine CP.out.mono ?_
 rintro e w2 ⟨A, c, rfl, hc, hr, hb⟩
 have HR := Hd.mk hr
 have HB := Hd.mk hb
 clear hr hb
 go_wp2_with fail
 go_ret
 exact ⟨A, c, rfl, hc, HR.out, HB.out⟩
theorem law14_shown (w : World) : Calls Tryz.prog 39 #[] w fun e w' => e = .returned (.bool true) ∧ Below w.heap.size w w' := by
 have CA := Hd.mk (fun W (hB : Below w.heap.size w W) => law14_text w.heap.size s14A W hB.size (by decide) parse14A)
 have CB := Hd.mk (fun W (hB : Below w.heap.size w W) => law14_text w.heap.size s14B W hB.size (by decide) parse14B)
 have CC := Hd.mk (fun W (hB : Below w.heap.size w W) => law14_text w.heap.size s14C W hB.size (by decide) parse14C)
 have SC : Hd (shortP [⟨ofD 1, ⟨1, 0, 0, 0⟩⟩, ⟨ofD (-1), ⟨0, 1, 0, 0⟩⟩]) := ⟨short14 (by decide) (by decide)⟩
 have HD := Hd.mk red14
 have PA := Hd.mk cp14A
 have PB := Hd.mk cp14B
 obtain ⟨QA, hA⟩ : ∃ PA : List TermD, [⟨ofD 2, ⟨1, 0, 0, 0⟩⟩, ⟨ofD (-2), ⟨0, 1, 0, 0⟩⟩] = PA := ⟨_, rfl⟩
 obtain ⟨QB, hB⟩ : ∃ PB : List TermD, [⟨ofD 1, ⟨2, 0, 0, 0⟩⟩] = PB := ⟨_, rfl⟩
 obtain ⟨QC, hC⟩ : ∃ PC : List TermD, [⟨ofD 1, ⟨1, 0, 0, 0⟩⟩, ⟨ofD (-1), ⟨0, 1, 0, 0⟩⟩] = PC := ⟨_, rfl⟩
 rw [hA] at CA PA HD
 rw [hB] at CB PB HD
 rw [hC] at CC SC HD
 clear hA hB hC
 unfold s14A at CA
 unfold s14B at CB
 unfold s14C at CC
 go_enter Tryz.func39, Tryz.ntmps39
 go_wp2_with fail
 refine (CA.out _ (.refl _ _)).mono ?_
 rintro e w1 ⟨A1, c1, rfl, hc1, hr, hb⟩
 have HR1 := Hd.mk hr
 have HB1 := Hd.mk hb
 clear hr hb CA
 go_wp2_with fail
 refine (CB.out _ HB1.out).mono ?_
 rintro e w2 ⟨A2, c2, rfl, hc2, hr, hb⟩
 have HR2 := Hd.mk (HR1.out.up hb)
 have HQ2 := Hd.mk hr
 have HB2 := Hd.mk (goes HB1.out hb)
 clear hr hb CB HR1 HB1
 have hbn : Below w2.heap.size w2 (w2.alloc (Obj.cells #[.slice A1 QA.length c1, .slice A2 QB.length c2] 25)) := (Below.refl _ _).alloc (Nat.le_refl _) _
 have HB3 := Hd.mk (goes HB2.out hbn)
 have CR := Hd.mk (reduce_Reduced w.heap.size w2.heap.size 0 2 0 [QA, QB] _ ok0 HB3.out.size (rpols_bk2 (p := QA) (q := QB) (Bk.new_ w2 25 #[.slice A1 QA.length c1, .slice A2 QB.length c2]) (HR2.out.up hbn) (HQ2.out.up hbn) hc1 hc2) (fun z hz => by
           simp only [List.mem_cons, List.not_mem_nil, or_false] at hz
           rcases hz with rfl | rfl
           ·exact PA.out
           ·exact PB.out) (by simp))
 dsimp only [List.length_cons, List.length_nil] at CR
 clear hbn
 go_wp2_with fail
 refine CR.out.mono ?_
 rintro e w3 ⟨A3, c3, R, E, rfl, hred, -, hr, -, hb⟩
 obtain ⟨rfl, rfl⟩ := red_one hred HD.out
 have HR3 := Hd.mk hr
 have HB4 := Hd.mk (goes HB3.out hb)
 clear hred hr hb CR HR2 HQ2 HB2 HB3
 go_wp2_with fail
 refine (CC.out _ HB4.out).mono ?_
 rintro e w4 ⟨A4, c4, rfl, hc4, hr, hb⟩
 have HR4 := Hd.mk (HR3.out.up hb)
 have HQ4 := Hd.mk hr
 have HB5 := Hd.mk (goes HB4.out hb)
 clear hr hb CC HR3 HB4
 have hbn : Below w4.heap.size w4 (w4.alloc (Obj.cells #[.slice A4 QC.length c4] 25)) := (Below.refl _ _).alloc (Nat.le_refl _) _
 have HB6 := Hd.mk (goes HB5.out hbn)
 have CS := Hd.mk (same_14 (c := c3) (d := 1) (HR4.out.up hbn) SC.out (rpols_bk1 (p := QC) (Bk.new_ w4 25 #[.slice A4 QC.length c4]) (HQ4.out.up hbn) hc4))
 clear hbn
 go_wp2_with fail
 refine CS.out.mono ?_
 rintro e w5 ⟨rfl, hb⟩
 have HB7 := Hd.mk (goes HB6.out hb)
 clear hb CS
 go_wp2_with fail
 go_ret
 exact ⟨rfl, HB7.out⟩
end Go.Proofs.YtgjkgkgieeoalaaGreat
namespace Go.Proofs.YtgjkgkgieeoalaaGreat
open Go.RowKit
theorem ref14_divides {b0 : Nat} {A B : Option Addr} {c d : Nat} {p q : List TermD} {w : World} (h : RPol w b0 A p) (hp : p ≠ []) (h' : RPol w b0 B q) (hq : q ≠ []) :
    Calls Tryz.prog 118 #[.slice A p.length c, .slice B q.length d] w fun e w' => e = .returned (.bool (dvd p q)) ∧ Below w.heap.size w w' := by
 obtain ⟨ad, rfl, -, p0, p1, p2, p3⟩ := h.head hp
 obtain ⟨bd, rfl, -, q0, q1, q2, q3⟩ := h'.head hq
 have CD := Hd.mk (rmon_Div (hdM q) (hdM p))
 simp only [MonD.v] at CD
 unfold dvd
 obtain ⟨x, hx⟩ : ∃ x, hdM p = x := ⟨_, rfl⟩
 obtain ⟨y, hy⟩ : ∃ y, hdM q = y := ⟨_, rfl⟩
 rw [hx] at CD p0 p1 p2 p3 ⊢
 rw [hy] at CD q0 q1 q2 q3 ⊢
 obtain ⟨⟨is, z⟩, hD⟩ : ∃ X, monDiv y x = X := ⟨_, rfl⟩
 rw [hD] at CD ⊢
 dsimp only at CD ⊢
 have hn0 := List.length_pos_iff.2 hp
 have hn0' := List.length_pos_iff.2 hq
 have hn : (0 : Int) < p.length := by omega
 have hn' : (0 : Int) < q.length := by omega
 have SO := Hd.mk (fun W (hB : Below w.heap.size w W) => And.intro (Hd.mk hB) (And.intro (cell_up p0 hB) (And.intro (cell_up p1 hB) (And.intro (cell_up p2 hB) (And.intro (cell_up p3 hB) (And.intro (cell_up q0 hB) (And.intro (cell_up q1 hB) (And.intro (cell_up q2 hB) (cell_up q3 hB)))))))))
 clear h h' hx hy hD hp hq
 go_enter Tryz.func118, Tryz.ntmps118
 go_upto_region 1 with (fail)
 go_cut [6] (fun v6 wx => v6 = .bool is ∧ Hd (Below w.heap.size w wx))
 case first =>
  go_region_held3 (fun W => Hd (Below w.heap.size w W) ∧ W.cell? ⟨ad.block, ad.off + 3, none⟩ = some (.int .i64 x.x0) ∧ W.cell? ⟨ad.block, ad.off + 3 + 1, none⟩ = some (.int .i64 x.x1) ∧ W.cell? ⟨ad.block, ad.off + 3 + 2, none⟩ = some (.int .i64 x.x2) ∧ W.cell? ⟨ad.block, ad.off + 3 + 3, none⟩ = some (.int .i64 x.x3) ∧
      W.cell? ⟨bd.block, bd.off + 3, none⟩ = some (.int .i64 y.x0) ∧ W.cell? ⟨bd.block, bd.off + 3 + 1, none⟩ = some (.int .i64 y.x1) ∧ W.cell? ⟨bd.block, bd.off + 3 + 2, none⟩ = some (.int .i64 y.x2) ∧ W.cell? ⟨bd.block, bd.off + 3 + 3, none⟩ = some (.int .i64 y.x3))
   (first
    | with_reducible exact SO.out _ (.refl _ _)
    | with_reducible exact SO.out _ (Below.refl _ _).drew
    | with_reducible exact SO.out _ ((Below.refl _ _).drew.alloc (Nat.le_refl _) _)
    | with_reducible exact SO.out _ ((Below.refl _ _).alloc (Nat.le_refl _) _).drew
    | with_reducible exact SO.out _ hB5
    | with_reducible exact SO.out _ (hB5.alloc hB5.size _)
    | with_reducible exact SO.out _ (below_set4 hB5 (Nat.le_refl _) _ _ _ _)
    | with_reducible exact SO.out _ (below_set4 (hB5.alloc hB5.size _) hB5.size _ _ _ _)
    | fail)
   (first
    | (go_at_call 34; have hB := ‹Hd (Below w.heap.size w _) ∧ _›.1; with_reducible refine (CD.out ((w.alloc (Obj.cells #[.int .i64 0, .int .i64 0, .int .i64 0, .int .i64 0] 66)).drew)).mono ?_; rintro e w8 ⟨rfl, hb⟩
       have hB5 := hB.out.trans (hb.mono hB.out.size)
       have hk := Hd.mk ((Bk.new_ w 66 #[.int .i64 0, .int .i64 0, .int .i64 0, .int .i64 0]).d1.up hb)
       obtain ⟨p6, p7, p8, p9⟩ := hk.out.four
       have fz := fun i => hk.out.froz i)
    | (go_at_call 34; have hB := ‹Hd (Below w.heap.size w _) ∧ _›.1; with_reducible refine (CD.out _).mono ?_; rintro e w8 ⟨rfl, hb⟩
       have hB5 := hB.out.trans (hb.mono hB.out.size)))
  all_goals
   have hB9 := ‹Hd (Below w.heap.size w _) ∧ _›.1
   go_wp2_with fail
   go_meet
   exact ⟨rfl, hB9⟩
 case rest =>
  obtain ⟨rfl, HB5⟩ := hcut
  go_wp2_with fail
  go_ret
  exact ⟨rfl, HB5.out⟩
end Go.Proofs.YtgjkgkgieeoalaaGreat
