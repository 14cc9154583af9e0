/- Parts of the proof, joined: what each says stands at its head. -/
import Derived.Test.YtjanagclahkfdaaGreatM43
set_option linter.unusedVariables false
set_option linter.unusedSimpArgs false
set_option maxHeartbeats 24000000
set_option maxRecDepth 100000
namespace Go.Proofs.YtjanagclahkfdaaGreat
open Go.RowKit
theorem law13_made (b0 : Nat) (order : Int) (A B : Option Addr) (c d : Nat) (ns : List Int) (ms : List (Int × Int × Int)) (w : World) (hb0 : b0 ≤ w.heap.size) (h : RSm w A c B d ns ms) :
    Calls Tryz.prog 29 #[.int .i64 order, .agg #[.slice A ns.length c, .slice B ms.length d]] w fun e w' => ∃ A' c', e = .returned (.slice A' (madeE order ns ms).length c') ∧
     (madeE order ns ms).length ≤ c' ∧ RPol w' b0 A' (madeE order ns ms) ∧ Below w.heap.size w w' := by
 obtain ⟨D, hD⟩ : ∃ D, madeE order ns ms = D := ⟨_, rfl⟩
 rw [hD]
 have HD := Hd.mk hD
 clear hD
 have HR := Hd.mk h
 have HB0 := Hd.mk hb0
 clear h hb0
 go_enter Tryz.func29, Tryz.ntmps29
 go_upto_region 2 with (fail)
 refine wp_gen (fun W => Below w.heap.size w W ∧ Bk W w.heap.size 64 #[.slice A ns.length c, .slice B ms.length d] ∧ OwnT W b0 (w.heap.size + 1) (.slice (some ⟨w.heap.size + 1, 0, none⟩) 0 0) []) ?_ ?_
 ·refine ⟨((Below.refl _ _).alloc (Nat.le_refl _) _).alloc (by simp) _, (Bk.new_ _ _ _).al _, ?_⟩
  have := ownT_lit (w.alloc (Obj.cells #[.slice A ns.length c, .slice B ms.length d] 64)) b0 (w.heap.size + 1) (by simp)
  simpa using this
 intro W0 hW
 have HK := Hd.mk (And.intro hW.out.1 hW.out.2.1)
 have HO := Hd.mk hW.out.2.2
 clear hW
 go_wp2_with fail
 go_loopw [5, 6] (fun v5 v6 wr => ∃ (i : Nat) (acc : List TermD), v6 = .int .i64 i ∧ i ≤ 5 ∧ acc.length = i ∧ Hd (acc = (smE ns ms).take i) ∧ Hd (OwnT wr b0 (w.heap.size + 1) v5 acc) ∧ Hd (Below w.heap.size w wr ∧ Bk wr w.heap.size 64 #[.slice A ns.length c, .slice B ms.length d])) (fun _ v _ => 5 - (intOf v).toNat)
 case atStart => exact ⟨0, [], rfl, by omega, rfl, ⟨rfl⟩, HO, HK⟩
 case round =>
  clear HO HK
  obtain ⟨i, acc, rfl, hi, hfl, HFA, HO, HK⟩ := hrel
  obtain ⟨Av, cv, rfl, hcv, _, hrv⟩ := HO.out.reads
  have HRV := Hd.mk hrv
  have HLN := Hd.mk hfl
  obtain ⟨p0, p1⟩ := HK.out.2.two'
  clear hrv hfl
  by_cases h1 : i < ns.length
  ·have i1 : (i : Int) < ns.length := by omega
   by_cases h2 : i < ms.length
   ·have i2 : (i : Int) < ms.length := by omega
    by_cases h3 : i < 5
    ·have i3 : (i : Int) < 5 := by omega
     obtain ⟨n, hn⟩ : ∃ n, ns[i]? = some n := ⟨_, List.getElem?_eq_getElem h1⟩
     obtain ⟨m, hm⟩ : ∃ m, ms[i]? = some m := ⟨_, List.getElem?_eq_getElem h2⟩
     obtain ⟨ad, eA, hab, hca⟩ := (HR.out.n.below HK.out.1).2 (by omega)
     obtain ⟨bd, eB, hbb, hcb⟩ := (HR.out.m.below HK.out.1).2 (by omega)
     have q0 := hca i (.int .i8 n) (by rw [ints_get _ _ _ h1, List.getD_eq_getElem?_getD, hn]; rfl)
     obtain ⟨f0, f1, f2⟩ := flat3_get hm
     have q1 := hcb _ _ f0
     have q2 := hcb _ _ f1
     have q3 := hcb _ _ f2
     rw [add_pos _ _ 1 (by omega)] at q2
     rw [add_pos _ _ 2 (by omega)] at q3
     subst eA eB
     have HN := Hd.mk (And.intro hn hm)
     have HFL : Hd (acc ++ [smT n m] = (smE ns ms).take (i + 1)) := ⟨by rw [HFA.out]; exact smE_take hn hm h3⟩
     have nb := HR.out.nb n (List.mem_of_getElem? hn)
     have mb := HR.out.mb m (List.mem_of_getElem? hm)
     have v0 : IntKind.i64.wrap n = n := by rw [IntKind.wrap_i64]; omega
     have v1 : IntKind.i64.wrap m.1 = m.1 := by rw [IntKind.wrap_i64]; omega
     have v2 : IntKind.i64.wrap m.2.1 = m.2.1 := by rw [IntKind.wrap_i64]; omega
     have v3 : IntKind.i64.wrap m.2.2 = m.2.2 := by rw [IntKind.wrap_i64]; omega
     have CO : Hd (∀ W, Hd (Below wr.heap.size wr W) → Calls Tryz.prog 27 #[.int .i64 (IntKind.i64.wrap n)] W fun e w' => ∃ x, e = .returned x ∧ RRat w' b0 x (ofD n) ∧ Below W.heap.size W w') := ⟨by
      rw [v0]
      exact fun W hB => rrat_Of b0 n W (Nat.le_trans HB0.out (Nat.le_trans HK.out.1.size hB.out.size)) (by omega) (by omega)⟩
     have HFL' : Hd (acc ++ [⟨ofD n, ⟨(IntKind.i64.wrap m.1).tmod 4, (IntKind.i64.wrap m.2.1).tmod 4, (IntKind.i64.wrap m.2.2).tmod 4, 0⟩⟩] = (smE ns ms).take (i + 1)) := ⟨by rw [v1, v2, v3]; exact HFL.out⟩
     generalize ofD n = X at CO HFL'
     clear v0 v1 v2 v3 nb mb
     clear hn hm f0 f1 f2 hca hcb
     go_wp2_with fail
     have b1 : (ad.add i).block < w.heap.size + 1 := by rw [add_block]; omega
     have b2 : (bd.add (i * 3)).block < w.heap.size + 1 := by rw [add_block]; omega
     have SO := Hd.mk (fun W (hB : Below (w.heap.size + 1) wr W) => And.intro (Hd.mk hB) (And.intro ((hB.cell (p := ⟨w.heap.size, 0, none⟩) (Nat.lt_succ_self _)).trans p0) (And.intro ((hB.cell (p := ⟨w.heap.size, 1, none⟩) (Nat.lt_succ_self _)).trans p1) (And.intro ((hB.cell b1).trans q0) (And.intro ((hB.cell b2).trans q1) (And.intro ((hB.cell (p := ⟨(bd.add (i * 3)).block, (bd.add (i * 3)).off + 1, none⟩) b2).trans q2) ((hB.cell (p := ⟨(bd.add (i * 3)).block, (bd.add (i * 3)).off + 2, none⟩) b2).trans q3)))))))
     have HZ : Hd (w.heap.size + 1 ≤ wr.heap.size) := ⟨HK.out.2.lt⟩
     clear b1 b2
     go_region_held3 (fun w' => Hd (Below (w.heap.size + 1) wr w') ∧ w'.cell? ⟨w.heap.size, 0, none⟩ = some (.slice (some ad) ns.length c) ∧ w'.cell? ⟨w.heap.size, 1, none⟩ = some (.slice (some bd) ms.length d) ∧ w'.cell? (ad.add i) = some (.int .i8 n) ∧ w'.cell? (bd.add (i * 3)) = some (.int .u8 m.1) ∧ w'.cell? ⟨(bd.add (i * 3)).block, (bd.add (i * 3)).off + 1, none⟩ = some (.int .u8 m.2.1) ∧ w'.cell? ⟨(bd.add (i * 3)).block, (bd.add (i * 3)).off + 2, none⟩ = some (.int .u8 m.2.2))
      (first
       | with_reducible exact SO.out _ (Below.refl _ _)
       | with_reducible exact SO.out _ (Below.refl _ _).drew
       | with_reducible exact SO.out _ HB6.out
       | with_reducible exact SO.out _ (HB6.out.alloc HB6z.out _)
       | with_reducible exact SO.out _ AP.below
       | fail)
      (first
       | (go_at_call 27; with_reducible refine (CO.out wr.drew ⟨(Below.refl _ _).drew⟩).mono ?_; rintro e w5 ⟨x, rfl, hx, hb⟩
          have hB5 : Below wr.heap.size wr w5 := (Below.refl wr.heap.size wr).drew.trans hb
          have HB5 := Hd.mk hB5
          have hx2 := hx
          obtain ⟨TA, tc, TB, td, rfl, _, _, _, _⟩ := hx2
          have T1 := rpol_one (t := ⟨X, ⟨(IntKind.i64.wrap m.1).tmod 4, (IntKind.i64.wrap m.2.1).tmod 4, (IntKind.i64.wrap m.2.2).tmod 4, 0⟩⟩) (rterm_of hx ⟨(IntKind.i64.wrap m.1).tmod 4, (IntKind.i64.wrap m.2.1).tmod 4, (IntKind.i64.wrap m.2.2).tmod 4, 0⟩) 53
          dsimp only at T1
          obtain ⟨tn, htn⟩ : ∃ tn : TermD, tn = ⟨X, ⟨(IntKind.i64.wrap m.1).tmod 4, (IntKind.i64.wrap m.2.1).tmod 4, (IntKind.i64.wrap m.2.2).tmod 4, 0⟩⟩ := ⟨_, rfl⟩
          rw [← htn] at T1
          have HT1 := Hd.mk T1
          have HFL2 : Hd (acc ++ [tn] = (smE ns ms).take (i + 1)) := ⟨by rw [htn]; exact HFL'.out⟩
          have XL : Hd (acc.length + [tn].length ≤ 1000000) := ⟨by have := HLN.out; simp; omega⟩
          have HB6 := Hd.mk (hB5.mono HZ.out)
          have HB6z : Hd (w.heap.size + 1 ≤ w5.heap.size) := ⟨Nat.le_trans HZ.out hB5.size⟩
          clear T1 htn)
       | (refine step_append_T (w0 := wr) (us := [tn]) (B := w.heap.size + 1) rfl _ _ 22 rfl Tryz.slTerms rfl rfl rfl (HO.out.up (hB5.alloc hB5.size _)) HT1.out (Nat.le_succ_of_le HB0.out) XL.out (HB6.out.alloc HB6z.out _) (Nat.le_refl _) (Nat.le_trans HZ.out (hB5.alloc hB5.size _).size) ?_; intro v' w8 AP))
     all_goals
      have HAP := Hd.mk AP
      have HK8 := Hd.mk (And.intro (HK.out.1.trans (AP.below.mono (Nat.le_succ _))) (AP.bk (HK.out.2.up (hB5.alloc hB5.size _)) (Nat.lt_succ_self _)))
      have hl2 : (acc ++ [tn]).length = i + 1 := by rw [List.length_append, HLN.out]; rfl
      clear AP
      go_wp2_with fail
      go_roundw
      case measure => first | (simp [intOf]; done) | (simp [intOf]; omega)
      case rel => exact ⟨i + 1, _, by go_num, by omega, hl2, HFL2, ⟨HAP.out.own⟩, HK8⟩
    ·have HE : Hd (acc = smE ns ms) := ⟨HFA.out.trans (smE_end (.inr (.inr h3)))⟩
     have i3 : ¬ (i : Int) < 5 := by omega
     have HM : Hd ((polMake order acc).2 = D) := ⟨by rw [HE.out]; exact HD.out⟩
     have CM := Hd.mk (rpol_Make b0 order Av cv acc wr (Nat.le_trans HB0.out HK.out.1.size) HRV.out hcv (by have := HLN.out; omega) (by rw [HE.out]; exact (smE_sm HR.out).ints.short (by decide) (by have := (smE_sm HR.out).len; omega)))
     rw [HM.out] at CM
     go_wp2_with fail
     refine CM.out.mono ?_
     rintro e w6 ⟨A6, c6, rfl, hc6, hr6, hb6⟩
     have HB6 := Hd.mk (goes HK.out.1 hb6)
     have HR6 := Hd.mk hr6
     clear hb6 hr6
     go_wp2_with fail
     go_ret
     exact ⟨A6, c6, rfl, hc6, HR6.out, HB6.out⟩
   ·have HE : Hd (acc = smE ns ms) := ⟨HFA.out.trans (smE_end (.inr (.inl h2)))⟩
    have i2 : ¬ (i : Int) < ms.length := by omega
    have HM : Hd ((polMake order acc).2 = D) := ⟨by rw [HE.out]; exact HD.out⟩
    have CM := Hd.mk (rpol_Make b0 order Av cv acc wr (Nat.le_trans HB0.out HK.out.1.size) HRV.out hcv (by have := HLN.out; omega) (by rw [HE.out]; exact (smE_sm HR.out).ints.short (by decide) (by have := (smE_sm HR.out).len; omega)))
    rw [HM.out] at CM
    go_wp2_with fail
    refine CM.out.mono ?_
    rintro e w6 ⟨A6, c6, rfl, hc6, hr6, hb6⟩
    have HB6 := Hd.mk (goes HK.out.1 hb6)
    have HR6 := Hd.mk hr6
    clear hb6 hr6
    go_wp2_with fail
    go_ret
    exact ⟨A6, c6, rfl, hc6, HR6.out, HB6.out⟩
  ·have HE : Hd (acc = smE ns ms) := ⟨HFA.out.trans (smE_end (.inl h1))⟩
   have i1 : ¬ (i : Int) < ns.length := by omega
   have HM : Hd ((polMake order acc).2 = D) := ⟨by rw [HE.out]; exact HD.out⟩
   have CM := Hd.mk (rpol_Make b0 order Av cv acc wr (Nat.le_trans HB0.out HK.out.1.size) HRV.out hcv (by have := HLN.out; omega) (by rw [HE.out]; exact (smE_sm HR.out).ints.short (by decide) (by have := (smE_sm HR.out).len; omega)))
   rw [HM.out] at CM
   go_wp2_with fail
   refine CM.out.mono ?_
   rintro e w6 ⟨A6, c6, rfl, hc6, hr6, hb6⟩
   have HB6 := Hd.mk (goes HK.out.1 hb6)
   have HR6 := Hd.mk hr6
   clear hb6 hr6
   go_wp2_with fail
   go_ret
   exact ⟨A6, c6, rfl, hc6, HR6.out, HB6.out⟩
end Go.Proofs.YtjanagclahkfdaaGreat
namespace Go.Proofs.YtjanagclahkfdaaGreat
open Go.ChangeShapes Go.WideShapes Go.RowKit
theorem Tryz.fldSmall_13 : fieldsAt (Tryz.prog.underlying 64) = [(35, 0), (36, 1)] := by kernel_rfl
theorem Tryz.cuSmall_13 : Tryz.prog.cellsOf 64 = 2 := by kernel_rfl
theorem Tryz.cuSlI8_13 : Tryz.prog.cellsOf 35 = 1 := by kernel_rfl
theorem Tryz.cuSlM3_13 : Tryz.prog.cellsOf 36 = 1 := by kernel_rfl
section
variable {H : Type} {enc : TypeId × Value → H} {w : World} {base : Nat} {spare : Nat → Bool} {held : Bool} {fuel : Nat} {cs : List Value} {x : DataW H × List MemPlace}
theorem rd_small_13 (h : DataW.trod enc Tryz.prog w base spare held fuel 64 cs = some x) : ∃ A ns c B ms d, cs = [.slice A ns.length c, .slice B ms.length d] ∧ RSm w A c B d ns ms := by
 obtain ⟨f, g, e, t1, o1, t2, o2⟩ := two_of Tryz.fldSmall_13
 obtain ⟨y0, y1, n, _, hl, h0, h1⟩ := trod_struct2 e h
 rw [Tryz.cuSmall_13] at hl
 rw [t1, o1, Tryz.cuSlI8_13] at h0
 rw [t2, o2, Tryz.cuSlM3_13] at h1
 match cs, hl with
 | [v0, v1], _ =>
   simp only [List.drop_zero, List.drop_succ_cons, List.take_succ_cons, List.take_zero] at h0 h1
   obtain ⟨A, ns, c, e0, l1, _, r1, b1⟩ := rd_row Tryz.slI8 Tryz.undI8 Tryz.cuI8 h0
   obtain ⟨B, ms, d, e1, l2, r2, b2⟩ := rd_m3s h1
   simp only [List.cons.injEq, and_true] at e0 e1
   subst e0 e1
   exact ⟨A, ns, c, B, ms, d, rfl, r1, r2, l1, l2, fun n hn => bounds_i8 (b1 n hn), b2⟩
end
end Go.Proofs.YtjanagclahkfdaaGreat
