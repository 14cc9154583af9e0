/- Parts of the proof, joined: what each says stands at its head. -/
import Derived.Test.YtjanagclahkfdaaGreatM31
set_option linter.unusedVariables false
set_option linter.unusedSimpArgs false
set_option maxHeartbeats 24000000
set_option maxRecDepth 100000
namespace Go.Proofs.YtjanagclahkfdaaGreat
open Go.RowKit
theorem div_Rest (b0 : Nat) (o : Int) (A L : Option Addr) (c cl : Nat) (p : List TermD) (l : List (List TermD)) (w : World) (hb0 : b0 ≤ w.heap.size) (h : RPol w b0 A p) (hc : p.length ≤ c) (hs : shortP p) (hL : RPols w b0 L l) (hcl : l.length ≤ cl) (hsl : shortPs l) :
    Calls Tryz.prog 18 #[.int .i64 o, .slice A p.length c, .slice L l.length cl] w fun e w' => ∃ R rc, e = .returned (.tuple #[.slice R (splitD o p l).2.2.length rc, .int .i64 (splitD o p l).1]) ∧ (splitD o p l).2.2.length ≤ rc ∧ RPol w' b0 R (splitD o p l).2.2 ∧ Below w.heap.size w w' := by
 have CS := Hd.mk (div_Split b0 o A L c cl p l w hb0 h hc hs hL hcl hsl)
 obtain ⟨D, hD⟩ : ∃ D, splitD o p l = D := ⟨_, rfl⟩
 rw [hD] at CS ⊢
 clear hD h hs hL hsl
 go_enter Tryz.func18, Tryz.ntmps18
 go_wp2_with fail
 refine CS.out.mono ?_
 rintro e w' ⟨Q, qc, R, rc, rfl, -, hrc, -, hR, hB⟩
 have HR := Hd.mk (And.intro hR hB)
 clear hR hB CS
 go_wp2_with fail
 go_ret2
 exact ⟨R, rc, rfl, hrc, HR.out.1, HR.out.2⟩
theorem results_tmp_cell' {fn : Func} {p u : Tmp} {ty : TypeId} (h : fn.results = #[.tmp u, .cell p ty]) (tmps : Array Value) (P : Program) (w : World) :
    (results fn tmps).run P w =
     ((asAddr (tmps.getD p undef)).run P w).andThen fun a w₁ => ((loadVar ty a).run P w₁).andThen fun v w₂ => .ok (.tuple #[tmps.getD u undef, v]) w₂ := by
 simp only [results, h]
 simp [Sem.run_bind, Result.andThen]
theorem res_mono3 {fn : Func} {p u : Tmp} (h : fn.results = #[.tmp u, .cell p 45]) (tmps : Array Value) (w : World) (g : Nat) (cs : Array Value) (hp : tmps.getD p undef = .pointer (some ⟨g, 0, none⟩)) (hk : Bk w g 45 cs) (hc : cs.size = 4) :
    (results fn tmps).run Tryz.prog w = .ok (.tuple #[tmps.getD u undef, .agg cs]) w := by
 obtain ⟨n, e, h1⟩ := arr_of Tryz.arMono
 rw [results_tmp_cell' h, hp]
 have hl := run_loadVar_row (P := Tryz.prog) w g 45 45 cs (0, 0) (.array n e) hk h1 rfl (by rw [hc]; exact Tryz.szMono)
 simp [asAddr, hl, Result.andThen]
def divD (l : List (List TermD)) (m : MonD) : Int × MonD := match dividesD l m with
 | none => (-1, zeroM)
 | some x => (x.1, x.2)
theorem divD_none {l : List (List TermD)} {m : MonD} (h : dividesD l m = none) : divD l m = (-1, zeroM) := by unfold divD; rw [h]
theorem divD_some {l : List (List TermD)} {m : MonD} {i : Nat} {q : MonD} (h : dividesD l m = some (i, q)) : divD l m = ((i : Int), q) := by unfold divD; rw [h]
theorem ref_divides (b0 : Nat) (L : Option Addr) (cl : Nat) (l : List (List TermD)) (m : MonD) (w : World) (hL : RPols w b0 L l) (hsl : shortPs l) :
    Calls Tryz.prog 50 #[.slice L l.length cl, .agg m.v] w fun e w' => e = .returned (.tuple #[.int .i64 (divD l m).1, .agg (divD l m).2.v]) ∧ Below w.heap.size w w' := by
 obtain ⟨E, hE⟩ : ∃ E, divD l m = E := ⟨_, rfl⟩
 rw [hE]
 have HEQ := Hd.mk hE
 have HL := Hd.mk hL
 have HS := Hd.mk hsl
 have hl := hsl.1
 clear hE hL hsl
 go_enter Tryz.func50, Tryz.ntmps50
 go_upto_region 1 with (fail)
 refine wp_gen (fun W => Bo2 w.heap.size w.heap.size (w.heap.size + 1) w W 45 45 m.v zeroM.v) (Bo2.mk2 w _ _ _ _) ?_
 intro W BX
 obtain ⟨g1, hg1⟩ : ∃ g, w.heap.size = g := ⟨_, rfl⟩
 obtain ⟨g2, hg2⟩ : ∃ g, w.heap.size + 1 = g := ⟨_, rfl⟩
 rw [hg2] at BX ⊢
 have BX : Hd (Bo2 w.heap.size g1 g2 w W 45 45 m.v zeroM.v) := ⟨by rw [← hg1]; exact BX.out⟩
 rw [hg1]
 clear hg1 hg2
 go_wp2_with fail
 go_loopw [6] (fun v6 wx => ∃ i : Nat, v6 = .int .i64 i ∧ i ≤ l.length ∧ Hd (Bo2 w.heap.size g1 g2 w wx 45 45 m.v zeroM.v) ∧ Hd (dividesD l m = shiftD i (dividesD (l.drop i) m))) (fun v _ => l.length - (intOf v).toNat)
 case atStart => exact ⟨0, rfl, by omega, BX, ⟨dividesD_start⟩⟩
 case round =>
  clear BX
  obtain ⟨i, rfl, hi, BX, HDV⟩ := hrel
  by_cases hil : i < l.length
  ·have hil' : (i : Int) < l.length := by omega
   have hi0 : (0 : Int) ≤ i := by omega
   obtain ⟨la, a, pc, b, rfl, hab, hti, hcell, hpc, hrb⟩ := (HL.out.up BX.out.below).get hil
   by_cases hb0 : b.length = 0
   ·have hb0' : ((b.length : Int) == 0) = true := by rw [hb0]; rfl
    have HN : Hd (dividesD l m = shiftD (i + 1) (dividesD (l.drop (i + 1)) m)) := ⟨HDV.out.trans (dividesD_skip hti.out (fun u b' e => by rw [e] at hb0; simp at hb0))⟩
    clear HDV hb0
    go_wp2_with fail
    go_roundw
    case measure => first | (simp [intOf]; done) | (simp [intOf]; omega)
    case rel => exact ⟨i + 1, by go_num, by omega, BX, HN⟩
   have hb0' : ((b.length : Int) == 0) = false := by rw [beq_eq_false_iff_ne]; omega
   have hb1 : (0 : Int) < b.length := by omega
   go_upto_region 5 with (fail)
   have hb2 : 0 < b.length := by omega
   obtain ⟨ba, B1, e1, B2, e2, u, rfl, hbb, hui, -, -, -, -, q3, q4, q5, q6⟩ := hrb.out.get hb2
   have ea : ba.add (0 * 7) = ba := by unfold Addr.add; simp
   rw [ea] at q3 q4 q5 q6
   obtain ⟨b', hbu⟩ : ∃ b', b = u :: b' := by
    have h2 := hui.out
    cases b with
    | nil => simp at hb2
    | cons x b' => simp at h2; exact ⟨b', by rw [h2]⟩
   have HTI := Hd.mk (show l[i]? = some (u :: b') by rw [← hbu]; exact hti.out)
   have CD := Hd.mk (rmon_Div m u.m)
   obtain ⟨mb, mm, hM⟩ : ∃ mb mm, monDiv m u.m = (mb, mm) := ⟨_, _, rfl⟩
   rw [hM] at CD
   dsimp only at CD
   have HM := Hd.mk hM
   simp only [MonD.v] at CD
   obtain ⟨k0, k1, k2, k3⟩ := BX.out.k1.four
   have SO := Hd.mk (fun W (hB : Below wr.heap.size wr W) => And.intro (Hd.mk hB) (And.intro (cell_up k0 hB) (And.intro (cell_up k1 hB) (And.intro (cell_up k2 hB) (And.intro (cell_up k3 hB) (And.intro (cell_up hcell hB) (And.intro (cell_up q3 hB) (And.intro (cell_up q4 hB) (And.intro (cell_up q5 hB) (cell_up q6 hB))))))))))
   clear ea hui hM hrb hbb hab hbu hti
   go_cut [7, 8] (fun v7 v8 wx => ∃ gm : Nat, v7 = .pointer (some ⟨gm, 0, none⟩) ∧ v8 = .bool mb ∧ Hd (Below wr.heap.size wr wx) ∧ Hd (Bk wx gm 45 #[.int .i64 mm.x0, .int .i64 mm.x1, .int .i64 mm.x2, .int .i64 mm.x3]) ∧ gm ≠ g2)
   case first =>
    go_region_held3 (fun W => Hd (Below wr.heap.size wr W) ∧ W.cell? ⟨g1, 0, none⟩ = some (.int .i64 m.x0) ∧ W.cell? ⟨g1, 1, none⟩ = some (.int .i64 m.x1) ∧ W.cell? ⟨g1, 2, none⟩ = some (.int .i64 m.x2) ∧ W.cell? ⟨g1, 3, none⟩ = some (.int .i64 m.x3) ∧ W.cell? (la.add i) = some (.slice (some ba) b.length pc) ∧
        W.cell? ⟨ba.block, ba.off + 3, none⟩ = some (.int .i64 u.m.x0) ∧ W.cell? ⟨ba.block, ba.off + 3 + 1, none⟩ = some (.int .i64 u.m.x1) ∧ W.cell? ⟨ba.block, ba.off + 3 + 2, none⟩ = some (.int .i64 u.m.x2) ∧ W.cell? ⟨ba.block, ba.off + 3 + 3, none⟩ = some (.int .i64 u.m.x3))
     (first
      | with_reducible exact SO.out _ (.refl _ _)
      | with_reducible exact SO.out _ (Below.refl _ _).drew
      | with_reducible exact SO.out _ ((Below.refl _ _).drew.alloc (Nat.le_refl _) _)
      | with_reducible exact SO.out _ ((Below.refl _ _).alloc (Nat.le_refl _) _).drew
      | with_reducible exact SO.out _ hB5
      | with_reducible exact SO.out _ (hB5.alloc hB5.size _)
      | with_reducible exact SO.out _ (below_set4 hB5 (Nat.le_refl _) _ _ _ _)
      | with_reducible exact SO.out _ (below_set4 (hB5.alloc hB5.size _) hB5.size _ _ _ _)
      | fail)
     (first
      | (go_at_call 24; have hB := ‹Hd (Below wr.heap.size wr _) ∧ _›.1; with_reducible refine (CD.out ((wr.alloc (Obj.cells #[.int .i64 0, .int .i64 0, .int .i64 0, .int .i64 0] 45)).drew)).mono ?_; rintro e w5 ⟨rfl, hb⟩
         have hB5 := hB.out.trans (hb.mono hB.out.size)
         have hk := Hd.mk ((Bk.new_ wr 45 #[.int .i64 0, .int .i64 0, .int .i64 0, .int .i64 0]).d1.up hb)
         obtain ⟨p6, p7, p8, p9⟩ := hk.out.four
         have fz := fun i => hk.out.froz i)
      | (go_at_call 24; have hB := ‹Hd (Below wr.heap.size wr _) ∧ _›.1; with_reducible refine (CD.out _).mono ?_; rintro e w5 ⟨rfl, hb⟩
         have hB5 := hB.out.trans (hb.mono hB.out.size)))
    all_goals
     have hB9 := ‹Hd (Below wr.heap.size wr _) ∧ _›.1
     have hg2 := BX.out.k2.lt
     have hs5 := hB5.size
     go_wp2_with fail
     go_meet
     first
      | with_reducible exact ⟨_, rfl, rfl, hB9, ⟨Bk.new_ _ _ _⟩, Nat.ne_of_gt (Nat.lt_of_lt_of_le hg2 hs5)⟩
      | with_reducible exact ⟨_, rfl, rfl, hB9, ⟨hk.out.set4 _ _ _ _⟩, Nat.ne_of_gt hg2⟩
      | fail
   case rest =>
    clear CD SO k0 k1 k2 k3 q3 q4 q5 q6 hcell
    obtain ⟨gm, rfl, rfl, HB3, KM, hgm⟩ := hcut
    have BX3 := Hd.mk (BX.out.up HB3.out)
    have HGM := Hd.mk hgm
    clear BX hgm
    cases mb
    ·have HN : Hd (dividesD l m = shiftD (i + 1) (dividesD (l.drop (i + 1)) m)) := ⟨HDV.out.trans (dividesD_skip HTI.out (fun u2 b2 e => by injection e with e1 e2; subst e1; rw [HM.out]))⟩
     go_wp2_with fail
     go_roundw
     case measure => first | (simp [intOf]; done) | (simp [intOf]; omega)
     case rel => exact ⟨i + 1, by go_num, by omega, BX3, HN⟩
    ·have HN : Hd (E = ((i : Int), mm)) := ⟨by
       rw [← HEQ.out]
       exact divD_some (by rw [HDV.out, dividesD_hit HTI.out (by rw [HM.out]), HM.out])⟩
     obtain ⟨m0, m1, m2, m3⟩ := KM.out.four
     have fz := fun i => BX3.out.k2.froz i
     obtain ⟨r0, r1, r2, r3⟩ := BX3.out.k2.four
     go_wp2_with fail
     go_region
     all_goals
      go_wp2_with fail
      refine bodyPost_ret (res_mono3 rfl _ _ g2 _ rfl (BX3.out.k2.d1.set4 _ _ _ _) rfl) rfl ?_
      rw [HN.out]
      exact ⟨rfl, Below.set4 BX3.out.below.drew BX3.out.s2 _ _ _ _⟩
  ·have hil' : ¬ (i : Int) < l.length := by omega
   have hil2 : i = l.length := by omega
   have HN : Hd (E = (-1, zeroM)) := ⟨by rw [← HEQ.out]; exact divD_none (by rw [HDV.out, hil2]; exact dividesD_end)⟩
   have fz := fun i => BX.out.k2.froz i
   obtain ⟨r0, r1, r2, r3⟩ := BX.out.k2.four
   clear HDV hil hil2
   go_wp2_with fail
   refine bodyPost_ret (res_mono3 rfl _ _ g2 _ rfl (BX.out.k2.set4 _ _ _ _) rfl) rfl ?_
   rw [HN.out]
   exact ⟨rfl, Below.set4 BX.out.below BX.out.s2 _ _ _ _⟩
end Go.Proofs.YtjanagclahkfdaaGreat
