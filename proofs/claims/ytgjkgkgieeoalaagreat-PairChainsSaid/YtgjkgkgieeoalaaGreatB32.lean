/- Parts of the proof, joined: each theorem says what it shows. -/
import Derived.Test.YtgjkgkgieeoalaaGreatB31
import Derived.Test.YtgjkgkgieeoalaaGreatB30
import Derived.Test.YtgjkgkgieeoalaaGreatB02
import Derived.Test.YtgjkgkgieeoalaaGreatB28
import Derived.Test.YtgjkgkgieeoalaaGreatB21
set_option linter.unusedVariables false
set_option linter.unusedSimpArgs false
set_option maxHeartbeats 24000000
set_option maxRecDepth 100000
namespace Go.Proofs.YtgjkgkgieeoalaaGreat
open Go.RowKit Go.PlainAid
theorem ref_Parse (b0 : Nat) (o : Int) (s : ByteArray) (w : World) (hb0 : b0 ≤ w.heap.size) (hs : s.size ≤ 1000000) :
    Calls Tryz.prog 160 #[.int .i64 o, .string s] w fun e w' => ∃ A c, e = .returned (.tuple #[.slice A (parseD o s).2.length c, .int .i64 (parseD o s).1]) ∧ (parseD o s).2.length ≤ c ∧ RPol w' b0 A (parseD o s).2 ∧ Below w.heap.size w w' := by
 obtain ⟨E, hE⟩ : ∃ E, parseD o s = E := ⟨_, rfl⟩
 rw [hE]
 have HE := Hd.mk hE
 clear hE
 unfold parseD at HE
 have HB0 := Hd.mk hb0
 have hsm : s.size ≤ maxLen := by unfold maxLen; omega
 have HOK := Hd.mk (sumD_ok hsm)
 clear hb0
 by_cases ho : o < 0
 ·have HT : Hd (E = (1, [])) := ⟨by rw [← HE.out, if_pos (.inl ho)]⟩
  clear HE
  go_enter Tryz.func160, Tryz.ntmps160
  go_wp2_with fail
  go_ret2
  rw [HT.out]
  exact ⟨none, 0, rfl, Nat.le_refl _, RPol.nil _ _ _, .refl _ _⟩
 by_cases ho2 : 2 < o
 ·have HT : Hd (E = (1, [])) := ⟨by rw [← HE.out, if_pos (.inr ho2)]⟩
  clear HE
  go_enter Tryz.func160, Tryz.ntmps160
  go_wp2_with fail
  go_ret2
  rw [HT.out]
  exact ⟨none, 0, rfl, Nat.le_refl _, RPol.nil _ _ _, .refl _ _⟩
 have HE1 := Hd.mk (HE.out.symm.trans (if_neg (by omega)))
 have CS := Hd.mk (text_sum s w.heap.size (w.alloc (.cells #[.string s, .int .i64 0, .bool false] 244)) (Bk.new_ _ _ _) hs)
 obtain ⟨⟨ps, bad⟩, hS⟩ : ∃ X, sumD s = X := ⟨_, rfl⟩
 rw [hS] at CS HE1 HOK
 dsimp only [tx] at CS HE1 HOK
 clear hS HE
 go_enter Tryz.func160, Tryz.ntmps160
 go_wp2_with fail
 refine CS.out.mono ?_
 rintro e w3 ⟨v, K, rfl, hop, hk, hg⟩
 have HB3 := Hd.mk (((Below.refl w.heap.size w).alloc (Nat.le_refl _) (.cells #[.string s, .int .i64 0, .bool false] 244)).grown hg (by simp) (fun k e => by injection e with e; omega))
 have HOP := Hd.mk hop
 obtain ⟨q0, q1, q2⟩ := hk.three
 obtain ⟨VA, vc, rfl, hvc, hvm⟩ := hop.reads
 clear hop hk hg CS
 cases bad
 case true =>
  have HT : Hd (E = (100, [])) := ⟨by rw [HE1.out, if_pos (.inl rfl)]⟩
  clear HE1
  go_wp2_with fail
  go_ret2
  rw [HT.out]
  exact ⟨none, 0, rfl, Nat.le_refl _, RPol.nil _ _ _, HB3.out⟩
 by_cases h2 : 2000 < s.size
 ·have h3 : (2000 : Int) < s.size := by omega
  have HT : Hd (E = (100, [])) := ⟨by rw [HE1.out, if_pos (.inr h2)]⟩
  clear HE1 h2
  go_wp2_with fail
  go_ret2
  rw [HT.out]
  exact ⟨none, 0, rfl, Nat.le_refl _, RPol.nil _ _ _, HB3.out⟩
 have h3 : ¬ (2000 : Int) < s.size := by omega
 have HE2 := Hd.mk (HE1.out.trans (if_neg (by simp; omega)))
 have hpl : ps.length ≤ 2002 := by have := HOK.out.2; omega
 clear HE1 h2
 go_upto_region 8 with (fail)
 refine wp_gen (fun W => Below w3.heap.size w3 W ∧ OwnT W b0 w3.heap.size (.slice (some ⟨w3.heap.size, 0, none⟩) 0 0) []) ⟨(Below.refl _ _).alloc (Nat.le_refl _) _, ownT_lit w3 b0 w3.heap.size (Nat.le_refl _)⟩ ?_
 intro W0 hW
 have HB0W := Hd.mk hW.out.1
 have HO0 := Hd.mk hW.out.2
 clear hW q0 q1 q2
 go_wp2_with fail
 go_loopw [8, 9] (fun v8 v9 wr => ∃ (i : Nat) (acc : List TermD), v9 = .int .i64 i ∧ i ≤ ps.length ∧ acc.length = i ∧ Hd (OwnT wr b0 w3.heap.size v8 acc) ∧ Hd (Below w3.heap.size w3 wr) ∧ Hd (termsD ps = appD acc (termsD (ps.drop i))) ∧ Hd (∀ t ∈ acc, t.c.short)) (fun _ v _ => ps.length - (intOf v).toNat)
 case atStart => exact ⟨0, [], rfl, by omega, rfl, HO0, HB0W, ⟨termsD_start ps⟩, ⟨fun t h => by cases h⟩⟩
 case round =>
  clear HO0 HB0W
  obtain ⟨i, acc, rfl, hi, hl, HO, HB, HQ, HS⟩ := hrel
  obtain ⟨Av, cv, rfl, hcv, _, hrv⟩ := HO.out.reads
  have HRV := Hd.mk hrv
  have HL := Hd.mk hl
  clear hrv hl
  by_cases hlt : i < ps.length
  ·have i1 : (i : Int) < ps.length := by omega
   have i0 : (0 : Int) ≤ i := by omega
   obtain ⟨p, hpi⟩ : ∃ p, ps[i]? = some p := ⟨_, List.getElem?_eq_getElem hlt⟩
   have HFO := Hd.mk (HOK.out.1 p (List.mem_of_getElem? hpi))
   have hop := HOP.out.up HB.out
   obtain ⟨cs, hop1, hop2⟩ := hop
   obtain ⟨V, g0, g1, hof⟩ := hop2.get hpi
   obtain ⟨ad, eA, hab, hca⟩ := (Rd.of_own hop1).2 (by omega)
   subst eA
   have q0 := hca _ _ g0
   have q1 := hca _ _ g1
   rw [add_pos _ _ 1 (by omega)] at q1
   obtain ⟨FA, fc, rfl, hfc, hfm⟩ := hof.reads
   have HRF := Hd.mk (Rd.of_own hof)
   have HD : Hd (termsD ps = appD acc (termsD (p :: ps.drop (i + 1)))) := ⟨by
    have e1 : ps[i] = p := by rw [List.getElem?_eq_getElem hlt] at hpi; injection hpi
    rw [HQ.out, List.drop_eq_getElem_cons hlt, e1]⟩
   have CT := Hd.mk (ref_term b0 p FA fc wr (Nat.le_trans HB0.out (Nat.le_trans HB3.out.size HB.out.size)) HRF.out HFO.out (by omega))
   have HN := Hd.mk (fun h => HD.out.trans (termsD_step (ps := ps.drop (i + 1)) (acc := acc) (p := p) h))
   have HE3 := Hd.mk (fun h => HD.out.trans (termsD_bad (ps := ps.drop (i + 1)) (acc := acc) (p := p) h))
   have HTS := Hd.mk (termD_short p)
   obtain ⟨⟨et, t⟩, hT⟩ : ∃ X, termD p = X := ⟨_, rfl⟩
   rw [hT] at CT HN HE3 HTS
   dsimp only [TermD.v] at CT
   dsimp only at HN HE3 HTS
   clear hop1 hop2 hca g0 g1 hof hpi HD hT HQ
   go_wp2_with fail
   refine CT.out.mono ?_
   rintro e w5 ⟨XA, xc, XB, xd, rfl, hr, hb⟩
   have HB5 := Hd.mk (goes HB.out hb)
   have HO5 := Hd.mk (HO.out.up hb)
   have HR5 := Hd.mk hr
   clear hb hr CT q0 q1 HRF HFO
   go_upto_region 12 with (fail)
   refine wp_gen (fun W => Below w3.heap.size w3 W ∧ OwnT W b0 w3.heap.size (.slice Av acc.length cv) acc ∧ Bk W w5.heap.size 68 (t.v XA xc XB xd) ∧ RTerm W b0 (.agg (t.v XA xc XB xd)) t) ⟨goes HB5.out ((Below.refl _ _).alloc (Nat.le_refl _) _), HO5.out.up ((Below.refl _ _).alloc (Nat.le_refl _) _), Bk.new_ _ _ _, HR5.out.up ((Below.refl _ _).alloc (Nat.le_refl _) _)⟩ ?_
   intro W6 h6
   generalize w5.heap.size = g6 at h6 ⊢
   have HB6 := Hd.mk h6.out.1
   have HO6 := Hd.mk h6.out.2.1
   have HR6 := Hd.mk h6.out.2.2.2
   obtain ⟨⟨t0, t1, t2⟩, t3, t4, t5, t6⟩ := h6.out.2.2.1.seven
   clear h6 HB5 HO5 HR5
   by_cases hz : et = 0
   case neg =>
    have e1 : (et != 0) = true := by rw [bne_iff_ne]; exact hz
    have HT : Hd (E = (et, [])) := ⟨by rw [HE2.out, HE3.out hz, if_pos hz]⟩
    clear hz HE3 HN HE2
    go_wp2_with fail
    go_ret2
    rw [HT.out]
    exact ⟨none, 0, rfl, Nat.le_refl _, RPol.nil _ _ _, goes HB3.out HB6.out⟩
   have e1 : (et != 0) = false := by rw [hz]; rfl
   have HN2 := Hd.mk (HN.out hz)
   have HT1 := Hd.mk (rpol_one (t := t) HR6.out 68)
   have XL : Hd (acc.length + [t].length ≤ 1000000) := ⟨by have := HL.out; simp; omega⟩
   clear hz HE3 HN
   go_wp2_with (at_builtin; refine wpList_append_T (w0 := w3) (us := [t]) rfl _ _ 24 24 rfl Tryz.slTerms Tryz.slTerms rfl rfl rfl (HO6.out.up ((Below.refl _ _).alloc (Nat.le_refl _) _)) HT1.out (Nat.le_trans HB0.out HB3.out.size) XL.out (HB6.out.alloc HB6.out.size _) (Nat.le_refl _) (HB6.out.alloc HB6.out.size _).size ?_)
   intro v' w10 AP
   have HAP := Hd.mk AP
   have hl2 : (acc ++ [t]).length = i + 1 := by rw [List.length_append, HL.out]; rfl
   have HSS : Hd (∀ s ∈ acc ++ [t], s.c.short) := ⟨fun s hs => by
    rcases List.mem_append.1 hs with h | h
    ·exact HS.out s h
    ·simp only [List.mem_singleton] at h; subst h; exact HTS.out⟩
   clear AP
   go_wp2_with fail
   go_roundw
   case measure => first | (simp [intOf]; done) | (simp [intOf]; omega)
   case rel => exact ⟨i + 1, _, by go_num, by omega, hl2, ⟨HAP.out.own⟩, ⟨HAP.out.below⟩, HN2, HSS⟩
  ·obtain rfl : i = ps.length := by omega
   have HT : Hd (E = polMake o acc) := ⟨by
    rw [HE2.out, HQ.out, List.drop_eq_nil_of_le (Nat.le_refl _)]
    unfold termsD appD
    simp⟩
   have CM := Hd.mk (rpol_Make b0 o Av cv acc wr (Nat.le_trans HB0.out (Nat.le_trans HB3.out.size HB.out.size)) HRV.out hcv (by have := HL.out; omega) ⟨by have := HL.out; omega, HS.out⟩)
   rw [← HT.out] at CM
   go_wp2_with fail
   refine CM.out.mono ?_
   rintro e w6 ⟨A6, c6, rfl, hc6, hr6, hb6⟩
   have HB6 := Hd.mk (goes HB3.out (goes HB.out hb6))
   have HR6 := Hd.mk hr6
   clear hb6 hr6
   go_wp2_with fail
   go_ret2
   exact ⟨A6, c6, rfl, hc6, HR6.out, HB6.out⟩
end Go.Proofs.YtgjkgkgieeoalaaGreat
namespace Go.Proofs.YtgjkgkgieeoalaaGreat
open Go.RowKit Go.Shelf
def cellsP (ps : List (Nat × Nat)) : List Value := ps.flatMap fun x => [.int .i64 x.1, .int .i64 x.2]
theorem cellsP_app (a b : List (Nat × Nat)) : cellsP (a ++ b) = cellsP a ++ cellsP b := by simp [cellsP]
theorem pairsU_len (N : Nat) : (pairsU N).length ≤ N * N := by
 induction N with
 | zero => simp [pairsU]
 | succ N ih =>
   show (pairsU N ++ _).length ≤ _
   rw [List.length_append, List.length_map, List.length_range, Nat.mul_succ, Nat.succ_mul]
   omega
theorem Tryz.infPair : (Tryz.prog.info? 23).map (fun i => (i.zero, i.size, i.bytes)) = some (some (.agg #[.int .i64 0, .int .i64 0]), 2, 16) := by kernel_rfl
theorem Tryz.slPairs : Tryz.prog.underlying 30 = some (.slice 23) := by kernel_rfl
theorem res_pairs {fn : Func} {p : Tmp} (h : fn.results = #[.cell p 30]) (tmps : Array Value) (w : World) (g : Nat) (v : Value) (hp : tmps.getD p undef = .pointer (some ⟨g, 0, none⟩)) (hc : w.cell? ⟨g, 0, none⟩ = some v) :
    (results fn tmps).run Tryz.prog w = .ok v w := by
 have hp' : tmps[p]?.getD undef = .pointer (some ⟨g, 0, none⟩) := by simpa using hp
 have hu := Tryz.slPairs
 simp [results, h, hp', asAddr, loadVar, go_sem, hu, hc]
theorem cell_two_new (W : World) (a b : Value) (t : TypeId) : ∀ j u, [a, b][j]? = some u → (W.alloc (.cells #[a, b] t)).cell? ((⟨W.heap.size, 0, none⟩ : Addr).add j) = some u := fun j u hu => by
 obtain ⟨ad, e, _, hc⟩ := (Rd.new_ W #[a, b] t 1 2 rfl).2 (by omega)
 injection e with e
 subst e
 exact hc j u hu
theorem bk_ownFrom {B Bx : Nat} {t : TypeId} {cs : Array Value} : OwnFrom B (fun (_ : Unit) W => Bk W Bx t cs) := fun _ X Y row h hg hr => h.grown hg fun e => by
 obtain ⟨_, o, ho, hcells⟩ := hr Bx e.symm
 have h2 : X.heap[Bx]? = some (.cells cs t (0, 0)) := h
 rw [h2] at ho
 cases ho
 cases hcells
attribute [local go_sem] Oper.semAt_some
theorem all_in (F : Fence) (n : Nat) (h3 : F.fn 36) (h4 : F.fn 103) (h5 : F.fn 182) (hro : F.round = none) (hn : 3 ≤ n) (k : Int) (N : Nat) (hN : max 0 (min k 64) = (N : Int)) (w : World) :
    CallsIn F n Tryz.prog 36 #[.int .i64 k] w fun e W' => ∃ v, e = .returned v ∧ W'.ownsRow w.heap.size 23 2 v (pairsU N).length (cellsP (pairsU N)) ∧ Below w.heap.size w W' := by
 have h1 : 1 ≤ n := by omega
 have hN64 : N ≤ 64 := by omega
 obtain ⟨i0, hi, hz0, hz1, hz2⟩ := info_parts Tryz.infPair
 have hlen := pairsU_len N
 have h64 : N * N ≤ 64 * 64 := Nat.mul_le_mul hN64 hN64
 refine callsIn_of_wp_marks Tryz.func36 rfl h3 ?_ hro
 simp only [Tryz.ntmps36, List.size_toArray, List.length_cons, List.length_nil, Nat.reduceAdd, Nat.reduceSub, Array.replicate_succ, Array.replicate_zero, List.push_toArray, List.append_toArray, List.nil_append, List.cons_append]
 gi_wp2_with (gi_at_call 103; refine (pairs_in F (n - 1) h4 hro _ _).mono ?_; rintro e w' ⟨rfl, rfl⟩)
 have bL := (Boxed.new w 30 (.slice none 0 0)).alloc (.cells #[.int .i64 N] 3)
 have bN := Boxed.new (w.alloc (.cells #[.slice none 0 0] 30)) 3 (.int .i64 N)
 rw [World.size_alloc] at bN
 have hB0 : Below w.heap.size w ((w.alloc (.cells #[.slice none 0 0] 30)).alloc (.cells #[.int .i64 N] 3)) := ((Below.refl _ w).alloc (Nat.le_refl _) _).alloc (by simp) _
 have hsz : ((w.alloc (.cells #[.slice none 0 0] 30)).alloc (.cells #[.int .i64 N] 3)).heap.size = w.heap.size + 2 := by simp
 obtain ⟨W0, hW0⟩ : ∃ W0, (w.alloc (.cells #[.slice none 0 0] 30)).alloc (.cells #[.int .i64 N] 3) = W0 := ⟨_, rfl⟩
 rw [hW0] at bL bN hB0 hsz ⊢
 clear hW0
 refine wpIn_rangeFunc_ownH hro h1 (gf := 182) (lb := #[.pointer (some ⟨w.heap.size + 1, 0, none⟩)]) rfl h5 (enters_of Tryz.func182 (by kernel_rfl) rfl)
  (pairs_stops F (n - 1) h5 hro (by omega) (w.heap.size + 1) w.heap.size N hN64 W0 (by omega) (by omega) bN.cell) belowK_t (belowK_b (by omega)) (Below.refl _ _) (fun _ => rfl)
  (fun pre W => (∃ v, Boxed W w.heap.size 30 v ∧ W.ownsRow w.heap.size 23 2 v pre.length (cellsP pre) ∧ True) ∧ Below w.heap.size w W)
  (fun _ _ _ => False)
  (OwnFrom.and (Own.from (holdsRow_own w.heap.size w.heap.size 30 23 2 (fun pre => pre.length) cellsP (fun _ _ => True)) _) (ownFrom_below (Nat.le_refl _) (by omega)))
  (fun _ _ _ _ _ hs _ _ => hs)
  ⟨⟨_, bL, World.ownsRow_nil _ _ _ _, trivial⟩, hB0⟩
  (fun x a' W => ∃ Bx, w.heap.size < Bx ∧ Bk W Bx 23 #[.int .i64 x.1, .int .i64 x.2] ∧ a' = { tmps := #[.int .i64 k, undef, .pointer (some ⟨w.heap.size, 0, none⟩), .pointer (some ⟨Bx, 0, none⟩), .int .i64 k, .int .i64 (min k 64), .int .i64 N, .func (.func 182) #[] #[.pointer (some ⟨w.heap.size + 1, 0, none⟩)], .agg #[.int .i64 x.1, .int .i64 x.2], undef, undef, undef, undef, undef], defers := [] })
  (fun x a' _ X Y row hs hg hr => by obtain ⟨Bx, h1, h2, h3⟩ := hs; exact ⟨Bx, h1, bk_ownFrom () X Y row h2 hg hr, h3⟩)
  ?assign ?body ?done ?stop
 case assign =>
  rintro l pre x W K ⟨⟨v, hv, hrow, _⟩, hB⟩ hK
  dsimp only [encP]
  gi_wp2
  exact hK _ _ ((KeepsOthers.alloc _ _).from _) ((Below.refl _ W).alloc hB.size _) ⟨⟨v, hv.alloc _, hrow.alloc _, trivial⟩, hB.alloc hB.size _⟩ ⟨W.heap.size, hv.lt, Bk.new_ W 23 _, rfl⟩
 case body =>
  rintro l pre x a' W hl ⟨r, hr⟩ ⟨⟨v, hv, hrow, _⟩, hB⟩ ⟨Bx, hBx, bX, rfl⟩ hlt
  have hc := hv.cell
  obtain ⟨x0, x1⟩ := bX.two'
  gi_wp2_with (gi_at_builtin; refine wpListIn_append_own _ rfl _ _ 30 rfl w.heap.size 23 i0 _ 2 16 Tryz.slPairs hi hz0 hz1 hz2 rfl (by decide) _ _ _ rfl (hrow.alloc _) ⟨W.heap.size, 0, none⟩ 1 1 [.int .i64 x.1, .int .i64 x.2] rfl rfl (cell_two_new _ _ _ _) (by simp [Value.oneCell']) (by unfold maxLen; omega) (by omega) (by have := hB.size; simp; omega) ?_; intro v' w1 hown' hgrow _; obtain ⟨g', cap', rfl⟩ := ownsRow_succ hown'; obtain ⟨hv1, hv2, hr2, hk2, hb2⟩ := hv.appended (by decide) hrow hB.size (Nat.le_refl _) hown' hgrow; have hc1 := hv1.cell; have hf1 := hv1.frozen)
  exact ⟨hk2.from _, hb2, ⟨_, hv2, by rw [cellsP_app]; simpa [cellsP] using hr2, trivial⟩, hB.trans hb2⟩
 case done =>
  rintro D ys W hD rfl ⟨⟨v, hv, hrow, _⟩, hB⟩ hK
  have hc := hv.cell
  have hf := hv.frozen
  have hf := hv.frozen
  have hnr := hv.not_row (by decide) hrow
  have hK' := (KeepsOthers.setCell W ⟨w.heap.size, 0, none⟩ v).same D _ hK rfl
  have hrow' := hrow.kept (grownBy_setCell' W w.heap.size v) (.inr hnr.symm)
  have hb := (hv.set v).cell
  have hres := (belowK_b (w := w) (Nat.le_refl _) _ D _ (Obj.deferred none) (by omega) hK' rfl rfl)
  have hbb : ((W.setCell ⟨w.heap.size, 0, none⟩ v).putObj D (.deferred none)).cell? ⟨w.heap.size, 0, none⟩ = some v := ((hv.set v).kept (grownBy_putObj' _ D _) (by simp; omega)).cell
  have hBB := (hB.setCell (p := ⟨w.heap.size, 0, none⟩) (Nat.le_refl _) v).trans hres
  have hown := ownsRow_putObj hrow' (Obj.deferred none) hK' rfl
  rcases hrow.2 with ⟨e, -⟩ | ⟨g, cap, cur, e, hg, ho, hr'⟩
  all_goals
   subst e
   gi_wp2
   refine ⟨by simp, .inl ⟨_, _, rfl, run_takeDeferred hK', ?_⟩⟩
   exact ⟨_, res_pairs rfl _ _ _ _ rfl hbb, _, rfl, hown, hBB⟩
 case stop =>
  rintro D c pre W _ _ h _
  exact h.elim
def cellsI (ps : List (Int × Int)) : List Value := ps.flatMap fun x => [.int .i64 x.1, .int .i64 x.2]
def allP (k : Int) : List (Int × Int) := (pairsU (max 0 (min k 64)).toNat).map fun x => ((x.1 : Int), (x.2 : Int))
theorem cells_all (l : List (Nat × Nat)) : cellsI (l.map fun x => ((x.1 : Int), (x.2 : Int))) = cellsP l := by
 induction l with
 | nil => rfl
 | cons x r ih => simpa [cellsI, cellsP] using ih
theorem cellsI_at {ps : List (Int × Int)} : ∀ {j : Nat} {x : Int × Int}, ps[j]? = some x → (cellsI ps)[j * 2]? = some (.int .i64 x.1) ∧ (cellsI ps)[j * 2 + 1]? = some (.int .i64 x.2) := by
 induction ps with
 | nil => intro j x h; cases h
 | cons y r ih =>
   intro j x h
   cases j with
   | zero => cases h; exact ⟨rfl, rfl⟩
   | succ j =>
     have := ih (j := j) (x := x) (by simpa using h)
     rw [show (j + 1) * 2 = j * 2 + 1 + 1 by omega]
     exact this
def RPrs (w : World) (A : Option Addr) (ps : List (Int × Int)) : Prop := Rd w w.heap.size 2 A ps.length (cellsI ps)
section
variable {w w' : World} {A : Option Addr} {ps : List (Int × Int)}
theorem RPrs.up (h : RPrs w A ps) (hb : Below w.heap.size w w') : RPrs w' A ps := Rd.up h hb
theorem RPrs.nil (w : World) (A : Option Addr) : RPrs w A [] := Rd.nil
theorem RPrs.get (h : RPrs w A ps) {j : Nat} (hj : j < ps.length) : ∃ (ad : Addr) (x y : Int), A = some ad ∧ ad.block < w.heap.size ∧ Hd (ps[j]? = some (x, y)) ∧
    w.cell? (ad.add (j * 2)) = some (.int .i64 x) ∧ w.cell? ⟨(ad.add (j * 2)).block, (ad.add (j * 2)).off + 1, none⟩ = some (.int .i64 y) := by
 obtain ⟨ad, e, hb, hc⟩ := h.2 (by omega)
 have hx := List.getElem?_eq_getElem hj
 obtain ⟨h0, h1⟩ := cellsI_at hx
 refine ⟨ad, ps[j].1, ps[j].2, e, hb, ⟨hx⟩, hc _ _ h0, ?_⟩
 rw [← add_pos _ _ 1 (by omega)]
 exact hc _ _ h1
end
theorem pair_All (k : Int) (w : World) :
    Calls Tryz.prog 36 #[.int .i64 k] w fun e W' => ∃ A c, e = .returned (.slice A (allP k).length c) ∧ RPrs W' A (allP k) ∧ Below w.heap.size w W' := by
 have h := callsIn_wide.1 (all_in Fence.wide 3 trivial trivial trivial rfl (Nat.le_refl _) k (max 0 (min k 64)).toNat (by omega) w)
 refine h.mono ?_
 rintro e W' ⟨v, rfl, hr, hb⟩
 have hl : (allP k).length = (pairsU (max 0 (min k 64)).toNat).length := by unfold allP; rw [List.length_map]
 have hc : cellsI (allP k) = cellsP (pairsU (max 0 (min k 64)).toNat) := cells_all _
 rw [← hl, ← hc] at hr
 have hf : ∃ A c, v = .slice A (allP k).length c := by
  rcases hr.2 with ⟨e, e0⟩ | ⟨g, cap, cur, e, -⟩
  ·exact ⟨none, 0, by rw [e, e0]⟩
  ·exact ⟨_, _, e⟩
 obtain ⟨A, c, rfl⟩ := hf
 exact ⟨A, c, rfl, Rd.of_own hr, hb⟩
end Go.Proofs.YtgjkgkgieeoalaaGreat
namespace Go.Proofs.YtgjkgkgieeoalaaGreat
open Go.RowKit
def rightD (n : Nat) (x : Int × Int) : Bool := decide (0 ≤ x.1) && decide (x.1 < x.2) && decide (x.2 < (n : Int))
def isP (a b : Int) (y : Int × Int) : Bool := decide (y.1 = min a b) && decide (y.2 = max a b)
def hasP (ps : List (Int × Int)) (a b : Int) : Bool := ps.any (isP a b)
theorem rightD_of {n : Nat} {x : Int × Int} (h : rightD n x = true) : 0 ≤ x.1 ∧ x.1 < x.2 ∧ x.2 < n := by
 unfold rightD at h
 simpa [and_assoc] using h
def cellsM (ls : List MonD) : List Value := ls.flatMap fun m => [.int .i64 m.x0, .int .i64 m.x1, .int .i64 m.x2, .int .i64 m.x3]
theorem cellsM_at {ls : List MonD} : ∀ {j : Nat} {m : MonD}, ls[j]? = some m → (cellsM ls)[j * 4]? = some (.int .i64 m.x0) ∧ (cellsM ls)[j * 4 + 1]? = some (.int .i64 m.x1) ∧ (cellsM ls)[j * 4 + 2]? = some (.int .i64 m.x2) ∧ (cellsM ls)[j * 4 + 3]? = some (.int .i64 m.x3) := by
 induction ls with
 | nil => intro j m h; cases h
 | cons y r ih =>
   intro j m h
   cases j with
   | zero => cases h; exact ⟨rfl, rfl, rfl, rfl⟩
   | succ j =>
     have := ih (j := j) (m := m) (by simpa using h)
     rw [show (j + 1) * 4 = j * 4 + 1 + 1 + 1 + 1 by omega, show j * 4 + 1 + 1 + 1 + 1 + 1 = (j * 4 + 1) + 1 + 1 + 1 + 1 by omega, show j * 4 + 1 + 1 + 1 + 1 + 2 = (j * 4 + 2) + 1 + 1 + 1 + 1 by omega, show j * 4 + 1 + 1 + 1 + 1 + 3 = (j * 4 + 3) + 1 + 1 + 1 + 1 by omega]
     exact this
def RMons (w : World) (A : Option Addr) (ls : List MonD) : Prop := Rd w w.heap.size 4 A ls.length (cellsM ls)
section
variable {w w' : World} {A : Option Addr} {ls : List MonD}
theorem RMons.up (h : RMons w A ls) (hb : Below w.heap.size w w') : RMons w' A ls := Rd.up h hb
theorem RMons.nil (w : World) (A : Option Addr) : RMons w A [] := Rd.nil
theorem RMons.get (h : RMons w A ls) {j : Nat} (hj : j < ls.length) : ∃ (ad : Addr) (m : MonD), A = some ad ∧ ad.block < w.heap.size ∧ Hd (ls[j]? = some m) ∧
    w.cell? (ad.add (j * 4)) = some (.int .i64 m.x0) ∧ w.cell? ⟨(ad.add (j * 4)).block, (ad.add (j * 4)).off + 1, none⟩ = some (.int .i64 m.x1) ∧
    w.cell? ⟨(ad.add (j * 4)).block, (ad.add (j * 4)).off + 2, none⟩ = some (.int .i64 m.x2) ∧ w.cell? ⟨(ad.add (j * 4)).block, (ad.add (j * 4)).off + 3, none⟩ = some (.int .i64 m.x3) := by
 obtain ⟨ad, e, hb, hc⟩ := h.2 (by omega)
 have hx := List.getElem?_eq_getElem hj
 obtain ⟨h0, h1, h2, h3⟩ := cellsM_at hx
 refine ⟨ad, ls[j], e, hb, ⟨hx⟩, hc _ _ h0, ?_, ?_, ?_⟩
 ·rw [← add_pos _ _ 1 (by omega)]; exact hc _ _ h1
 ·rw [← add_pos _ _ 2 (by omega)]; exact hc _ _ h2
 ·rw [← add_pos _ _ 3 (by omega)]; exact hc _ _ h3
end
theorem Bk.pair {w : World} {g : Nat} {t : TypeId} {v0 v1 : Value} (h : Bk w g t #[v0, v1]) : w.cell? ⟨g, 0, none⟩ = some v0 ∧ w.cell? ⟨g, 1, none⟩ = some v1 := ⟨by rw [h.cell]; rfl, by rw [h.cell]; rfl⟩
theorem pair_right (A : Option Addr) (n c : Nat) (x y : Int) (w : World) :
    Calls Tryz.prog 89 #[.slice A n c, .agg #[.int .i64 x, .int .i64 y]] w fun e w' => e = .returned (.bool (rightD n (x, y))) ∧ Below w.heap.size w w' := by
 obtain ⟨E, hE⟩ : ∃ E, rightD n (x, y) = E := ⟨_, rfl⟩
 rw [hE]
 have HE := Hd.mk hE
 clear hE
 by_cases h0 : 0 ≤ x
 case neg =>
  have HF : Hd (E = false) := ⟨by rw [← HE.out]; unfold rightD; simp [h0]⟩
  go_enter Tryz.func89, Tryz.ntmps89
  go_wp2_with fail
  go_ret
  exact ⟨retBool HF.out.symm, (Below.refl _ _).alloc (Nat.le_refl _) _⟩
 by_cases h1 : x < y
 case neg =>
  have HF : Hd (E = false) := ⟨by rw [← HE.out]; unfold rightD; simp [h1]⟩
  go_enter Tryz.func89, Tryz.ntmps89
  go_wp2_with fail
  go_ret
  exact ⟨retBool HF.out.symm, (Below.refl _ _).alloc (Nat.le_refl _) _⟩
 by_cases h2 : y < n
 case neg =>
  have HF : Hd (E = false) := ⟨by rw [← HE.out]; unfold rightD; simp [h2]⟩
  go_enter Tryz.func89, Tryz.ntmps89
  go_wp2_with fail
  go_ret
  exact ⟨retBool HF.out.symm, (Below.refl _ _).alloc (Nat.le_refl _) _⟩
 have HF : Hd (E = true) := ⟨by rw [← HE.out]; unfold rightD; simp [h0, h1, h2]⟩
 go_enter Tryz.func89, Tryz.ntmps89
 go_wp2_with fail
 go_ret
 exact ⟨retBool HF.out.symm, (Below.refl _ _).alloc (Nat.le_refl _) _⟩
theorem Tryz.fldPr : ((Tryz.prog.fieldsOf 23).toList).map (fun f => (f.name, f.type, f.offset)) = [("I", 3, 0), ("J", 3, 1)] := by kernel_rfl
theorem Tryz.undPr : (match Tryz.prog.underlying 23 with | some (.struct _) => true | _ => false) = true := by kernel_rfl
theorem eq_pair (a b c d : Int) (w : World) : (Op.equalIn 10000 23 (.agg #[.int .i64 a, .int .i64 b]) (.agg #[.int .i64 c, .int .i64 d])).run Tryz.prog w = .ok (decide (a = c) && decide (b = d)) w := by
 have hu : Tryz.prog.underlying 23 = some (.struct (Tryz.prog.fieldsOf 23)) := by
  have h := Tryz.undPr
  unfold Program.fieldsOf
  cases h2 : Tryz.prog.underlying 23 with
  | none => rw [h2] at h; cases h
  | some u => rw [h2] at h; cases u <;> first | rfl | cases h
 rw [run_equalIn_struct w 9999 23 _ _ hu (by kernel_rfl)]
 have hf := Tryz.fldPr
 generalize (Tryz.prog.fieldsOf 23).toList = fs at hf
 obtain ⟨f, g, rfl⟩ := (show ∃ f g, fs = [f, g] by
  have hl : fs.length = 2 := by simpa using congrArg List.length hf
  cases fs with
  | nil => cases hl
  | cons f r =>
    cases r with
    | nil => cases hl
    | cons g r =>
      cases r with
      | nil => exact ⟨f, g, rfl⟩
      | cons k r => simp at hl)
 ·simp only [List.map_cons, List.map_nil, List.cons.injEq, Prod.mk.injEq, and_true] at hf
  obtain ⟨⟨f1, f2, f3⟩, g1, g2, g3⟩ := hf
  have hp : Tryz.prog.plainKey 3 = true := by kernel_rfl
  have p0 : ∀ (x y : Int) (w : World), (Go.part 3 #[Value.int .i64 x, .int .i64 y] 0).run Tryz.prog w = .ok (.int .i64 x) w := fun x y w => run_part_plain w hp rfl
  have p1 : ∀ (x y : Int) (w : World), (Go.part 3 #[Value.int .i64 x, .int .i64 y] 1).run Tryz.prog w = .ok (.int .i64 y) w := fun x y w => run_part_plain w hp rfl
  have q : ∀ (x y : Int) (w : World), (Op.equalIn 9999 3 (.int .i64 x) (.int .i64 y)).run Tryz.prog w = .ok (x == y) w := fun x y w => run_equalIn_int w 9998 3 .i64 .i64 x y Tryz.undI
  unfold Op.eqFields Op.eqFields Op.eqFields
  rw [f1, f2, f3, g1, g2, g3]
  simp only [show ("I" ≠ "_") from by decide, show ("J" ≠ "_") from by decide, if_true, Sem.run_bind, p0, p1, Result.andThen_ok, q, ne_eq, not_false_eq_true]
  by_cases h1 : a = c
  ·by_cases h2 : b = d
   ·simp [h1, h2, p1, q]
   ·simp [h1, h2, p1, q]
  ·simp [h1]
theorem pairs_Index (A : Option Addr) (c : Nat) (ps : List (Int × Int)) (a b : Int) (w : World) (h : RPrs w A ps) (hl : ps.length ≤ 1000000) :
    Calls Tryz.prog 181 #[.slice A ps.length c, .agg #[.int .i64 a, .int .i64 b]] w fun e w' => ∃ r : Int, e = .returned (.int .i64 r) ∧ decide (0 ≤ r) = ps.any (fun y => decide (a = y.1) && decide (b = y.2)) ∧ Below w.heap.size w w' := by
 obtain ⟨E, hE⟩ : ∃ E, ps.any (fun y => decide (a = y.1) && decide (b = y.2)) = E := ⟨_, rfl⟩
 rw [hE]
 have HY : Hd (∀ {i : Nat} {y : Int × Int}, ps[i]? = some y → (decide (a = y.1) && decide (b = y.2)) = true → E = true) := ⟨fun h1 h2 => by rw [← hE]; exact List.any_eq_true.2 ⟨_, List.mem_of_getElem? h1, h2⟩⟩
 have HN : Hd ((∀ j y, j < ps.length → ps[j]? = some y → (decide (a = y.1) && decide (b = y.2)) = false) → E = false) := ⟨fun h => by
  rw [← hE, List.any_eq_false]
  intro y hy
  obtain ⟨j, hj, e⟩ := List.getElem_of_mem hy
  rw [h j y hj (by rw [List.getElem?_eq_getElem hj, e])]
  simp⟩
 have HR := Hd.mk h
 clear hE h
 go_enter Tryz.func181, Tryz.ntmps181
 go_upto_region 1 with (fail)
 refine wp_gen (fun W => Bk W w.heap.size 23 #[.int .i64 a, .int .i64 b] ∧ Below w.heap.size w W) ⟨Bk.new_ w 23 #[.int .i64 a, .int .i64 b], (Below.refl _ _).alloc (Nat.le_refl _) _⟩ ?_
 intro W1 H1
 have K1 := Hd.mk H1.out.1
 have HB1 := Hd.mk H1.out.2
 have HR1 := Hd.mk (HR.out.up H1.out.2)
 clear H1 HR
 go_wp2_with fail
 go_loopw [8] (fun v wr => ∃ i : Nat, v = .int .i64 i ∧ i ≤ ps.length ∧ Hd (Below W1.heap.size W1 wr) ∧ Hd (∀ j y, j < i → ps[j]? = some y → (decide (a = y.1) && decide (b = y.2)) = false)) (fun v _ => ps.length - (intOf v).toNat)
 case atStart => exact ⟨0, rfl, by omega, ⟨.refl _ _⟩, ⟨fun j y h => absurd h (by omega)⟩⟩
 case round =>
  obtain ⟨i, rfl, hi, HB, HNO⟩ := hrel
  by_cases hlt : i < ps.length
  ·have i1 : (i : Int) < ps.length := by omega
   have i3 : (0 : Int) ≤ i := by omega
   obtain ⟨ad, x, y, rfl, -, hx, c0, c1⟩ := (HR1.out.up HB.out).get hlt
   obtain ⟨d0, d1⟩ := (K1.out.up HB.out).pair
   have HX := hx
   have HNO2 : Hd ((decide (a = x) && decide (b = y)) = false → ∀ j y, j < i + 1 → ps[j]? = some y → (decide (a = y.1) && decide (b = y.2)) = false) := ⟨fun hn j z hj hz => by
    rcases Nat.lt_or_ge j i with h | h
    ·exact HNO.out j z h hz
    ·obtain rfl : j = i := by omega
     rw [HX.out] at hz
     injection hz with hz
     rw [← hz]; exact hn⟩
   have HY2 := Hd.mk (HY.out hx.out)
   clear hx
   have QE := fun W => eq_pair a b x y W
   obtain ⟨t, ht⟩ : ∃ t, (decide (a = x) && decide (b = y)) = t := ⟨_, rfl⟩
   rw [ht] at HNO2
   simp only [ht] at QE HY2
   clear ht
   cases t with
   | false =>
     have HN3 := Hd.mk (HNO2.out rfl)
     go_wp2_with fail
     go_quiet (fail)
     go_wp2_with fail
     exact ⟨⟨i + 1, by go_num, by omega, ⟨Below.dn HB.out _⟩, HN3⟩, by simp [intOf]; omega⟩
   | true =>
     have HE := Hd.mk (HY2.out rfl)
     go_wp2_with fail
     go_quiet (fail)
     go_wp2_with fail
     go_ret
     exact ⟨_, rfl, by rw [HE.out]; exact decide_eq_true (by omega), Below.dn (goes HB1.out HB.out) _⟩
  ·have i1 : ¬ (i : Int) < ps.length := by omega
   obtain rfl : i = ps.length := by omega
   have HE := Hd.mk (HN.out HNO.out)
   go_wp2_with fail
   go_ret
   exact ⟨_, rfl, by rw [HE.out]; rfl, goes HB1.out HB.out⟩
theorem pairs_Contains (A : Option Addr) (c : Nat) (ps : List (Int × Int)) (a b : Int) (w : World) (h : RPrs w A ps) (hl : ps.length ≤ 1000000) :
    Calls Tryz.prog 102 #[.slice A ps.length c, .agg #[.int .i64 a, .int .i64 b]] w fun e w' => e = .returned (.bool (ps.any (fun y => decide (a = y.1) && decide (b = y.2)))) ∧ Below w.heap.size w w' := by
 have CI := Hd.mk (fun W (hB : Below w.heap.size w W) => pairs_Index A c ps a b W (h.up hB) hl)
 obtain ⟨E, hE⟩ : ∃ E, ps.any (fun y => decide (a = y.1) && decide (b = y.2)) = E := ⟨_, rfl⟩
 rw [hE] at CI ⊢
 clear hE h
 go_enter Tryz.func102, Tryz.ntmps102
 go_wp2_with fail
 refine (CI.out _ ((Below.refl _ _).alloc (Nat.le_refl _) _)).mono ?_
 rintro e w2 ⟨r, rfl, hr, hb⟩
 have HB2 := Hd.mk (goes ((Below.refl w.heap.size w).alloc (Nat.le_refl _) _) hb)
 clear hb CI
 cases E with
 | false =>
   have hr : ¬ 0 ≤ r := of_decide_eq_false hr
   go_wp2_with fail
   go_ret
   exact ⟨rfl, HB2.out⟩
 | true =>
   have hr : 0 ≤ r := of_decide_eq_true hr
   go_wp2_with fail
   go_ret
   exact ⟨rfl, HB2.out⟩
theorem any_isP (ps : List (Int × Int)) (a b : Int) : ps.any (fun y => decide (min a b = y.1) && decide (max a b = y.2)) = hasP ps a b := by
 unfold hasP
 congr 1
 funext y
 unfold isP
 congr 1 <;> exact decide_eq_decide.2 eq_comm
theorem pair_waits (A : Option Addr) (c g : Nat) (ps : List (Int × Int)) (a b : Int) (w : World) (h : RPrs w A ps) (hl : ps.length ≤ 1000000) (hg : w.cell? ⟨g, 0, none⟩ = some (.slice A ps.length c)) :
    Calls Tryz.prog 101 #[.int .i64 a, .int .i64 b, .pointer (some ⟨g, 0, none⟩)] w fun e w' => e = .returned (.bool (hasP ps a b)) ∧ Below w.heap.size w w' := by
 have CI := Hd.mk (fun W (hB : Below w.heap.size w W) => pairs_Contains A c ps (min a b) (max a b) W (h.up hB) hl)
 simp only [any_isP] at CI
 clear h
 obtain ⟨E, hE⟩ : ∃ E, hasP ps a b = E := ⟨_, rfl⟩
 rw [hE] at CI ⊢
 clear hE
 obtain ⟨lo, hlo⟩ : ∃ lo, min a b = lo := ⟨_, rfl⟩
 obtain ⟨hi, hhi⟩ : ∃ hi, max a b = hi := ⟨_, rfl⟩
 rw [hlo, hhi] at CI
 go_enter Tryz.func101, Tryz.ntmps101
 go_wp2_with fail
 refine (CI.out _ (.refl _ _)).mono ?_
 rintro e w2 ⟨rfl, hb⟩
 have HB2 := Hd.mk hb
 clear hb
 go_wp2_with fail
 go_ret
 exact ⟨rfl, HB2.out⟩
end Go.Proofs.YtgjkgkgieeoalaaGreat
