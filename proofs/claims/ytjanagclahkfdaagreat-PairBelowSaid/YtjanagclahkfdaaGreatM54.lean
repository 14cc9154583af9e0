/- Parts of the proof, joined: what each says stands at its head. -/
import Derived.Test.YtjanagclahkfdaaGreatM01
import Derived.Test.YtjanagclahkfdaaGreatM38
import Derived.Test.YtjanagclahkfdaaGreatM24
import Derived.RangeFuncNested
import Derived.RangeFuncBound
import Derived.RangeFuncCalls
import Derived.RangeFuncLeaves
import Derived.RangeFuncBox
import Derived.Shelf.Abstract
import Derived.Shelf.RegionOpen
import Derived.WalkKit
import Derived.OwnWalkIn
import Derived.TacticsInMore
import Derived.LoopNIn
import Derived.LoopIn
import Derived.Maps.AppendAt
set_option linter.unusedVariables false
set_option linter.unusedSimpArgs false
set_option maxHeartbeats 24000000
set_option maxRecDepth 100000
namespace Go.Proofs.YtjanagclahkfdaaGreat
open Go.RowKit Go.Shelf
def pairsU : Nat → List (Nat × Nat)
 | 0 => []
 | j + 1 => pairsU j ++ (List.range j).map fun i => (i, j)
theorem pairsU_pre (N : Nat) : ∀ j, j ≤ N → ∃ r, pairsU N = pairsU j ++ r := by
 induction N with
 | zero =>
   intro j h
   obtain rfl : j = 0 := by omega
   exact ⟨[], rfl⟩
 | succ N ih =>
   intro j h
   by_cases e : j = N + 1
   ·subst e; exact ⟨[], by simp⟩
   ·obtain ⟨r, hr⟩ := ih j (by omega)
    exact ⟨r ++ (List.range N).map fun i => (i, N), by show pairsU N ++ _ = _; rw [hr, List.append_assoc]⟩
theorem pairsU_at {N i j : Nat} (hj : j < N) (hi : i < j) : ∃ r, pairsU N = pairsU j ++ (List.range i).map (fun i => (i, j)) ++ (i, j) :: r := by
 obtain ⟨r, hr⟩ := pairsU_pre N (j + 1) hj
 obtain ⟨s, hs⟩ : ∃ s, List.range j = List.range i ++ i :: s := by
  refine ⟨(List.range j).drop (i + 1), ?_⟩
  have h := (List.take_append_drop i (List.range j)).symm
  rw [List.drop_eq_getElem_cons (by simpa using hi)] at h
  simpa [List.take_range, Nat.min_eq_left (Nat.le_of_lt hi)] using h
 refine ⟨s.map (fun i => (i, j)) ++ r, ?_⟩
 rw [hr]
 show pairsU j ++ (List.range j).map (fun i => (i, j)) ++ r = _
 rw [hs]
 simp
def encP (x : Nat × Nat) : Array Value := #[.agg #[.int .i64 x.1, .int .i64 x.2]]
attribute [local go_sem] Oper.semAt_some
theorem pairs1_in (F : Fence) (n : Nat) (h6 : F.fn 105) (hro : F.round = none) (hn : 1 ≤ n) (l Bn n₀ N : Nat) (hN : N ≤ 64) (J Jx : List (Nat × Nat) → World → Prop)
    (hY : ∀ pre x W, J pre W → pre.length < (pairsU N).length → YieldAt F (n - 1) Tryz.prog l (encP x) W fun e W' =>
     (e = .returned (.bool true) ∧ J (pre ++ [x]) W' ∧ Below n₀ W W') ∨ (e = .returned (.bool false) ∧ Jx (pre ++ [x]) W'))
    (W : World) (hBn : W.cell? ⟨Bn, 0, none⟩ = some (.int .i64 N)) (h0 : J [] W) :
    CallsIn F n Tryz.prog 105 #[.func (.yield l) #[] #[], .pointer (some ⟨Bn, 0, none⟩)] W fun e W' => (∃ v, e = .returned v) ∧
     ((∃ ys, ys = pairsU N ∧ J ys W') ∨ (∃ pre, pre <+: pairsU N ∧ Jx pre W')) := by
 refine callsIn_of_wp Tryz.func105 rfl h6 ?_ hro
 simp only [Tryz.ntmps105, List.size_toArray, List.length_cons, List.length_nil, Nat.reduceAdd, Nat.reduceSub, Array.replicate_succ, Array.replicate_zero, List.push_toArray, List.append_toArray, List.nil_append, List.cons_append]
 gi_wp2
 gi_loopw [6] (fun p wr => ∃ j : Nat, p = .int .i64 j ∧ j ≤ N ∧ J (pairsU j) wr) (fun p _ => N - (intOf p).toNat)
 case atStart =>
  exact ⟨0, rfl, by omega, h0⟩
 case round =>
  obtain ⟨j, rfl, hj, hJs⟩ := hrel
  by_cases hlt : j < N
  ·have i1 : (j : Int) < N := by omega
   gi_wp2
   gi_loopw [10] (fun p wr => ∃ i : Nat, p = .int .i64 i ∧ i ≤ j ∧ J (pairsU j ++ (List.range i).map fun i => (i, j)) wr) (fun p _ => j - (intOf p).toNat)
   case atStart => exact ⟨0, rfl, by omega, by simpa using hJs⟩
   case round =>
    obtain ⟨i, rfl, hi, hJi⟩ := hrel
    by_cases hij : i < j
    ·have i2 : (i : Int) < j := by omega
     obtain ⟨rest, hrest⟩ := pairsU_at hlt hij
     obtain ⟨fn, tmps, assign, body, hy, hR⟩ := hY (pairsU j ++ (List.range i).map fun i => (i, j)) (i, j) wr hJi (by rw [hrest]; simp)
     dsimp only [encP] at hy
     gi_wp2
     refine hR.mono ?_
     rintro e W3 (⟨rfl, hJ3, _⟩ | ⟨rfl, hJx3⟩)
     ·gi_wp2
      go_roundw
      case measure => first | (simp [intOf]; done) | (simp [intOf]; omega)
      case rel => exact ⟨i + 1, by go_num, by omega, by rw [List.range_succ, List.map_append]; simpa using hJ3⟩
     ·gi_wp2
      refine bodyPost_ret (results_none rfl _ _ _) rfl ?_
      exact ⟨⟨_, rfl⟩, .inr ⟨_, ⟨rest, by rw [hrest]; simp⟩, hJx3⟩⟩
    ·have i2 : ¬ (i : Int) < j := by omega
     obtain rfl : i = j := by omega
     gi_wp2
     go_roundw
     case measure => first | (simp [intOf]; done) | (simp [intOf]; omega)
     case rel => exact ⟨i + 1, by go_num, by omega, hJi⟩
  ·have i1 : ¬ (j : Int) < N := by omega
   obtain rfl : j = N := by omega
   gi_wp2
   go_end0
   exact ⟨⟨_, rfl⟩, .inl hJs⟩
theorem pairs_in (F : Fence) (n : Nat) (h5 : F.fn 70) (hro : F.round = none) (N : Int) (w : World) :
    CallsIn F n Tryz.prog 70 #[.int .i64 N] w fun e w' => e = .returned (.func (.func 105) #[] #[.pointer (some ⟨w.heap.size, 0, none⟩)]) ∧ w' = w.alloc (.cells #[.int .i64 N] 3) := by
 refine callsIn_of_wp Tryz.func70 rfl h5 ?_ hro
 simp only [Tryz.ntmps70, List.size_toArray, List.length_cons, List.length_nil, Nat.reduceAdd, Nat.reduceSub, Array.replicate_succ, Array.replicate_zero, List.push_toArray, List.append_toArray, List.nil_append, List.cons_append]
 gi_wp2
 go_ret
 exact ⟨rfl, rfl⟩
theorem pairs_stops (F : Fence) (n : Nat) (h6 : F.fn 105) (hro : F.round = none) (hn : 1 ≤ n) (Bn n₀ N : Nat) (hN : N ≤ 64) (w : World) (hBn : Bn < w.heap.size) (hn₀ : n₀ ≤ w.heap.size)
    (hc : w.cell? ⟨Bn, 0, none⟩ = some (.int .i64 N)) :
    SeqStopsK F n Tryz.prog 105 #[.pointer (some ⟨Bn, 0, none⟩)] encP (Below n₀) (fun ys => ys = pairsU N) (fun pre => pre <+: pairsU N) (pairsU N).length w := fun l J Jx W hW _ _ hY h0 =>
 pairs1_in F n h6 hro hn l Bn n₀ N hN J Jx hY W ((hW.cell (p := ⟨Bn, 0, none⟩) hBn).trans hc) h0
def cellsP (ps : List (Nat × Nat)) : List Value := ps.flatMap fun x => [.int .i64 x.1, .int .i64 x.2]
theorem cellsP_app (a b : List (Nat × Nat)) : cellsP (a ++ b) = cellsP a ++ cellsP b := by simp [cellsP]
theorem pairsU_len (N : Nat) : (pairsU N).length ≤ N * N := by
 induction N with
 | zero => simp [pairsU]
 | succ N ih =>
   show (pairsU N ++ _).length ≤ _
   rw [List.length_append, List.length_map, List.length_range, Nat.mul_succ, Nat.succ_mul]
   omega
theorem Tryz.infPair : (Tryz.prog.info? 72).map (fun i => (i.zero, i.size, i.bytes)) = some (some (.agg #[.int .i64 0, .int .i64 0]), 2, 16) := by kernel_rfl
theorem Tryz.slPairs : Tryz.prog.underlying 69 = some (.slice 72) := by kernel_rfl
theorem res_pairs {fn : Func} {p : Tmp} (h : fn.results = #[.cell p 69]) (tmps : Array Value) (w : World) (g : Nat) (v : Value) (hp : tmps.getD p undef = .pointer (some ⟨g, 0, none⟩)) (hc : w.cell? ⟨g, 0, none⟩ = some v) :
    (results fn tmps).run Tryz.prog w = .ok v w := by
 have hp' : tmps[p]?.getD undef = .pointer (some ⟨g, 0, none⟩) := by simpa using hp
 have hu := Tryz.slPairs
 simp [results, h, hp', asAddr, loadVar, go_sem, hu, hc]
theorem cell_two_new (W : World) (a b : Value) (t : TypeId) : ∀ j u, [a, b][j]? = some u → (W.alloc (.cells #[a, b] t)).cell? ((⟨W.heap.size, 0, none⟩ : Addr).add j) = some u := fun j u hu => by
 obtain ⟨ad, e, _, hc⟩ := (Rd.new_ W #[a, b] t 1 2 rfl).2 (by omega)
 injection e with e
 subst e
 exact hc j u hu
theorem bk_ownFrom {B Bx : Nat} {t : TypeId} {cs : Array Value} : OwnFrom B (fun (_ : Unit) W => Bk W Bx t cs) := fun _ X Y row h hg hr => h.grown hg fun e => by
 obtain ⟨_, o, ho, hcells⟩ := hr Bx e.symm
 have h2 : X.heap[Bx]? = some (.cells cs t (0, 0)) := h
 rw [h2] at ho
 cases ho
 cases hcells
attribute [local go_sem] Oper.semAt_some
theorem all_in (F : Fence) (n : Nat) (h3 : F.fn 34) (h4 : F.fn 70) (h5 : F.fn 105) (hro : F.round = none) (hn : 3 ≤ n) (k : Int) (N : Nat) (hN : max 0 (min k 64) = (N : Int)) (w : World) :
    CallsIn F n Tryz.prog 34 #[.int .i64 k] w fun e W' => ∃ v, e = .returned v ∧ W'.ownsRow w.heap.size 72 2 v (pairsU N).length (cellsP (pairsU N)) ∧ Below w.heap.size w W' := by
 have h1 : 1 ≤ n := by omega
 have hN64 : N ≤ 64 := by omega
 obtain ⟨i0, hi, hz0, hz1, hz2⟩ := info_parts Tryz.infPair
 have hlen := pairsU_len N
 have h64 : N * N ≤ 64 * 64 := Nat.mul_le_mul hN64 hN64
 refine callsIn_of_wp_marks Tryz.func34 rfl h3 ?_ hro
 simp only [Tryz.ntmps34, List.size_toArray, List.length_cons, List.length_nil, Nat.reduceAdd, Nat.reduceSub, Array.replicate_succ, Array.replicate_zero, List.push_toArray, List.append_toArray, List.nil_append, List.cons_append]
 gi_wp2_with (gi_at_call 70; refine (pairs_in F (n - 1) h4 hro _ _).mono ?_; rintro e w' ⟨rfl, rfl⟩)
 have bL := (Boxed.new w 69 (.slice none 0 0)).alloc (.cells #[.int .i64 N] 3)
 have bN := Boxed.new (w.alloc (.cells #[.slice none 0 0] 69)) 3 (.int .i64 N)
 rw [World.size_alloc] at bN
 have hB0 : Below w.heap.size w ((w.alloc (.cells #[.slice none 0 0] 69)).alloc (.cells #[.int .i64 N] 3)) := ((Below.refl _ w).alloc (Nat.le_refl _) _).alloc (by simp) _
 have hsz : ((w.alloc (.cells #[.slice none 0 0] 69)).alloc (.cells #[.int .i64 N] 3)).heap.size = w.heap.size + 2 := by simp
 obtain ⟨W0, hW0⟩ : ∃ W0, (w.alloc (.cells #[.slice none 0 0] 69)).alloc (.cells #[.int .i64 N] 3) = W0 := ⟨_, rfl⟩
 rw [hW0] at bL bN hB0 hsz ⊢
 clear hW0
 refine wpIn_rangeFunc_ownH hro h1 (gf := 105) (lb := #[.pointer (some ⟨w.heap.size + 1, 0, none⟩)]) rfl h5 (enters_of Tryz.func105 (by kernel_rfl) rfl)
  (pairs_stops F (n - 1) h5 hro (by omega) (w.heap.size + 1) w.heap.size N hN64 W0 (by omega) (by omega) bN.cell) belowK_t (belowK_b (by omega)) (Below.refl _ _) (fun _ => rfl)
  (fun pre W => (∃ v, Boxed W w.heap.size 69 v ∧ W.ownsRow w.heap.size 72 2 v pre.length (cellsP pre) ∧ True) ∧ Below w.heap.size w W)
  (fun _ _ _ => False)
  (OwnFrom.and (Own.from (holdsRow_own w.heap.size w.heap.size 69 72 2 (fun pre => pre.length) cellsP (fun _ _ => True)) _) (ownFrom_below (Nat.le_refl _) (by omega)))
  (fun _ _ _ _ _ hs _ _ => hs)
  ⟨⟨_, bL, World.ownsRow_nil _ _ _ _, trivial⟩, hB0⟩
  (fun x a' W => ∃ Bx, w.heap.size < Bx ∧ Bk W Bx 72 #[.int .i64 x.1, .int .i64 x.2] ∧ a' = { tmps := #[.int .i64 k, undef, .pointer (some ⟨w.heap.size, 0, none⟩), .pointer (some ⟨Bx, 0, none⟩), .int .i64 k, .int .i64 (min k 64), .int .i64 N, .func (.func 105) #[] #[.pointer (some ⟨w.heap.size + 1, 0, none⟩)], .agg #[.int .i64 x.1, .int .i64 x.2], undef, undef, undef, undef, undef], defers := [] })
  (fun x a' _ X Y row hs hg hr => by obtain ⟨Bx, h1, h2, h3⟩ := hs; exact ⟨Bx, h1, bk_ownFrom () X Y row h2 hg hr, h3⟩)
  ?assign ?body ?done ?stop
 case assign =>
  rintro l pre x W K ⟨⟨v, hv, hrow, _⟩, hB⟩ hK
  dsimp only [encP]
  gi_wp2
  exact hK _ _ ((KeepsOthers.alloc _ _).from _) ((Below.refl _ W).alloc hB.size _) ⟨⟨v, hv.alloc _, hrow.alloc _, trivial⟩, hB.alloc hB.size _⟩ ⟨W.heap.size, hv.lt, Bk.new_ W 72 _, rfl⟩
 case body =>
  rintro l pre x a' W hl ⟨r, hr⟩ ⟨⟨v, hv, hrow, _⟩, hB⟩ ⟨Bx, hBx, bX, rfl⟩ hlt
  have hc := hv.cell
  obtain ⟨x0, x1⟩ := bX.two'
  gi_wp2_with (gi_at_builtin; refine wpListIn_append_own _ rfl _ _ 69 rfl w.heap.size 72 i0 _ 2 16 Tryz.slPairs hi hz0 hz1 hz2 rfl (by decide) _ _ _ rfl (hrow.alloc _) ⟨W.heap.size, 0, none⟩ 1 1 [.int .i64 x.1, .int .i64 x.2] rfl rfl (cell_two_new _ _ _ _) (by simp [Value.oneCell']) (by unfold maxLen; omega) (by omega) (by have := hB.size; simp; omega) ?_; intro v' w1 hown' hgrow _; obtain ⟨g', cap', rfl⟩ := ownsRow_succ hown'; obtain ⟨hv1, hv2, hr2, hk2, hb2⟩ := hv.appended (by decide) hrow hB.size (Nat.le_refl _) hown' hgrow; have hc1 := hv1.cell; have hf1 := hv1.frozen)
  exact ⟨hk2.from _, hb2, ⟨_, hv2, by rw [cellsP_app]; simpa [cellsP] using hr2, trivial⟩, hB.trans hb2⟩
 case done =>
  rintro D ys W hD rfl ⟨⟨v, hv, hrow, _⟩, hB⟩ hK
  have hc := hv.cell
  have hf := hv.frozen
  have hf := hv.frozen
  have hnr := hv.not_row (by decide) hrow
  have hK' := (KeepsOthers.setCell W ⟨w.heap.size, 0, none⟩ v).same D _ hK rfl
  have hrow' := hrow.kept (grownBy_setCell' W w.heap.size v) (.inr hnr.symm)
  have hb := (hv.set v).cell
  have hres := (belowK_b (w := w) (Nat.le_refl _) _ D _ (Obj.deferred none) (by omega) hK' rfl rfl)
  have hbb : ((W.setCell ⟨w.heap.size, 0, none⟩ v).putObj D (.deferred none)).cell? ⟨w.heap.size, 0, none⟩ = some v := ((hv.set v).kept (grownBy_putObj' _ D _) (by simp; omega)).cell
  have hBB := (hB.setCell (p := ⟨w.heap.size, 0, none⟩) (Nat.le_refl _) v).trans hres
  have hown := ownsRow_putObj hrow' (Obj.deferred none) hK' rfl
  rcases hrow.2 with ⟨e, -⟩ | ⟨g, cap, cur, e, hg, ho, hr'⟩
  all_goals
   subst e
   gi_wp2
   refine ⟨by simp, .inl ⟨_, _, rfl, run_takeDeferred hK', ?_⟩⟩
   exact ⟨_, res_pairs rfl _ _ _ _ rfl hbb, _, rfl, hown, hBB⟩
 case stop =>
  rintro D c pre W _ _ h _
  exact h.elim
def cellsI (ps : List (Int × Int)) : List Value := ps.flatMap fun x => [.int .i64 x.1, .int .i64 x.2]
def allP (k : Int) : List (Int × Int) := (pairsU (max 0 (min k 64)).toNat).map fun x => ((x.1 : Int), (x.2 : Int))
theorem cells_all (l : List (Nat × Nat)) : cellsI (l.map fun x => ((x.1 : Int), (x.2 : Int))) = cellsP l := by
 induction l with
 | nil => rfl
 | cons x r ih => simpa [cellsI, cellsP] using ih
theorem cellsI_len (ps : List (Int × Int)) : (cellsI ps).length = ps.length * 2 := by
 induction ps with
 | nil => rfl
 | cons x r ih =>
   show ([Value.int .i64 x.1, .int .i64 x.2] ++ cellsI r).length = _
   rw [List.length_append, ih, List.length_cons]
   simp; omega
theorem cellsI_at {ps : List (Int × Int)} : ∀ {j : Nat} {x : Int × Int}, ps[j]? = some x → (cellsI ps)[j * 2]? = some (.int .i64 x.1) ∧ (cellsI ps)[j * 2 + 1]? = some (.int .i64 x.2) := by
 induction ps with
 | nil => intro j x h; cases h
 | cons y r ih =>
   intro j x h
   cases j with
   | zero => cases h; exact ⟨rfl, rfl⟩
   | succ j =>
     have := ih (j := j) (x := x) (by simpa using h)
     rw [show (j + 1) * 2 = j * 2 + 1 + 1 by omega]
     exact this
def RPrs (w : World) (A : Option Addr) (ps : List (Int × Int)) : Prop := Rd w w.heap.size 2 A ps.length (cellsI ps)
section
variable {w w' : World} {A : Option Addr} {ps : List (Int × Int)}
theorem RPrs.up (h : RPrs w A ps) (hb : Below w.heap.size w w') : RPrs w' A ps := Rd.up h hb
theorem RPrs.nil (w : World) (A : Option Addr) : RPrs w A [] := Rd.nil
theorem RPrs.get (h : RPrs w A ps) {j : Nat} (hj : j < ps.length) : ∃ (ad : Addr) (x y : Int), A = some ad ∧ ad.block < w.heap.size ∧ Hd (ps[j]? = some (x, y)) ∧
    w.cell? (ad.add (j * 2)) = some (.int .i64 x) ∧ w.cell? ⟨(ad.add (j * 2)).block, (ad.add (j * 2)).off + 1, none⟩ = some (.int .i64 y) := by
 obtain ⟨ad, e, hb, hc⟩ := h.2 (by omega)
 have hx := List.getElem?_eq_getElem hj
 obtain ⟨h0, h1⟩ := cellsI_at hx
 refine ⟨ad, ps[j].1, ps[j].2, e, hb, ⟨hx⟩, hc _ _ h0, ?_⟩
 rw [← add_pos _ _ 1 (by omega)]
 exact hc _ _ h1
end
theorem pair_All (k : Int) (w : World) :
    Calls Tryz.prog 34 #[.int .i64 k] w fun e W' => ∃ A c, e = .returned (.slice A (allP k).length c) ∧ RPrs W' A (allP k) ∧ Below w.heap.size w W' := by
 have h := callsIn_wide.1 (all_in Fence.wide 3 trivial trivial trivial rfl (Nat.le_refl _) k (max 0 (min k 64)).toNat (by omega) w)
 refine h.mono ?_
 rintro e W' ⟨v, rfl, hr, hb⟩
 have hl : (allP k).length = (pairsU (max 0 (min k 64)).toNat).length := by unfold allP; rw [List.length_map]
 have hc : cellsI (allP k) = cellsP (pairsU (max 0 (min k 64)).toNat) := cells_all _
 rw [← hl, ← hc] at hr
 have hf : ∃ A c, v = .slice A (allP k).length c := by
  rcases hr.2 with ⟨e, e0⟩ | ⟨g, cap, cur, e, -⟩
  ·exact ⟨none, 0, by rw [e, e0]⟩
  ·exact ⟨_, _, e⟩
 obtain ⟨A, c, rfl⟩ := hf
 exact ⟨A, c, rfl, Rd.of_own hr, hb⟩
end Go.Proofs.YtjanagclahkfdaaGreat
