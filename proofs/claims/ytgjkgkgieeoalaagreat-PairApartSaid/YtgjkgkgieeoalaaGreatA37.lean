/- Parts of the proof, joined: each theorem says what it shows. -/
import Derived.Test.YtgjkgkgieeoalaaGreatA01
import Derived.Test.YtgjkgkgieeoalaaGreatA36
import Derived.Test.YtgjkgkgieeoalaaGreatA26
import Derived.Test.YtgjkgkgieeoalaaGreatA32
import Derived.Test.YtgjkgkgieeoalaaGreatA34
import Derived.Test.YtgjkgkgieeoalaaGreatA30
import Derived.Test.YtgjkgkgieeoalaaGreatA31
import Derived.Test.YtgjkgkgieeoalaaGreatA21
import Derived.Test.YtgjkgkgieeoalaaGreatA33
import Derived.RangeFuncNested
import Derived.RangeFuncBound
import Derived.RangeFuncCalls
import Derived.RangeFuncLeaves
import Derived.RangeFuncBox
import Derived.Shelf.Abstract
import Derived.Shelf.RegionOpen
import Derived.WalkKit
import Derived.OwnWalkIn
import Derived.TacticsInMore
import Derived.LoopNIn
import Derived.LoopIn
import Derived.Maps.AppendAt
set_option linter.unusedVariables false
set_option linter.unusedSimpArgs false
set_option maxHeartbeats 24000000
set_option maxRecDepth 100000
namespace Go.Proofs.YtgjkgkgieeoalaaGreat
open Go.RowKit Go.Shelf
def pairsU : Nat → List (Nat × Nat)
 | 0 => []
 | j + 1 => pairsU j ++ (List.range j).map fun i => (i, j)
theorem pairsU_pre (N : Nat) : ∀ j, j ≤ N → ∃ r, pairsU N = pairsU j ++ r := by
 induction N with
 | zero =>
   intro j h
   obtain rfl : j = 0 := by omega
   exact ⟨[], rfl⟩
 | succ N ih =>
   intro j h
   by_cases e : j = N + 1
   ·subst e; exact ⟨[], by simp⟩
   ·obtain ⟨r, hr⟩ := ih j (by omega)
    exact ⟨r ++ (List.range N).map fun i => (i, N), by show pairsU N ++ _ = _; rw [hr, List.append_assoc]⟩
theorem pairsU_at {N i j : Nat} (hj : j < N) (hi : i < j) : ∃ r, pairsU N = pairsU j ++ (List.range i).map (fun i => (i, j)) ++ (i, j) :: r := by
 obtain ⟨r, hr⟩ := pairsU_pre N (j + 1) hj
 obtain ⟨s, hs⟩ : ∃ s, List.range j = List.range i ++ i :: s := by
  refine ⟨(List.range j).drop (i + 1), ?_⟩
  have h := (List.take_append_drop i (List.range j)).symm
  rw [List.drop_eq_getElem_cons (by simpa using hi)] at h
  simpa [List.take_range, Nat.min_eq_left (Nat.le_of_lt hi)] using h
 refine ⟨s.map (fun i => (i, j)) ++ r, ?_⟩
 rw [hr]
 show pairsU j ++ (List.range j).map (fun i => (i, j)) ++ r = _
 rw [hs]
 simp
def encP (x : Nat × Nat) : Array Value := #[.agg #[.int .i64 x.1, .int .i64 x.2]]
attribute [local go_sem] Oper.semAt_some
theorem pairs1_in (F : Fence) (n : Nat) (h6 : F.fn 182) (hro : F.round = none) (hn : 1 ≤ n) (l Bn n₀ N : Nat) (hN : N ≤ 64) (J Jx : List (Nat × Nat) → World → Prop)
    (hY : ∀ pre x W, J pre W → pre.length < (pairsU N).length → YieldAt F (n - 1) Tryz.prog l (encP x) W fun e W' =>
     (e = .returned (.bool true) ∧ J (pre ++ [x]) W' ∧ Below n₀ W W') ∨ (e = .returned (.bool false) ∧ Jx (pre ++ [x]) W'))
    (W : World) (hBn : W.cell? ⟨Bn, 0, none⟩ = some (.int .i64 N)) (h0 : J [] W) :
    CallsIn F n Tryz.prog 182 #[.func (.yield l) #[] #[], .pointer (some ⟨Bn, 0, none⟩)] W fun e W' => (∃ v, e = .returned v) ∧
     ((∃ ys, ys = pairsU N ∧ J ys W') ∨ (∃ pre, pre <+: pairsU N ∧ Jx pre W')) := by
 refine callsIn_of_wp Tryz.func182 rfl h6 ?_ hro
 simp only [Tryz.ntmps182, List.size_toArray, List.length_cons, List.length_nil, Nat.reduceAdd, Nat.reduceSub, Array.replicate_succ, Array.replicate_zero, List.push_toArray, List.append_toArray, List.nil_append, List.cons_append]
 gi_wp2
 gi_loopw [6] (fun p wr => ∃ j : Nat, p = .int .i64 j ∧ j ≤ N ∧ J (pairsU j) wr) (fun p _ => N - (intOf p).toNat)
 case atStart =>
  exact ⟨0, rfl, by omega, h0⟩
 case round =>
  obtain ⟨j, rfl, hj, hJs⟩ := hrel
  by_cases hlt : j < N
  ·have i1 : (j : Int) < N := by omega
   gi_wp2
   gi_loopw [10] (fun p wr => ∃ i : Nat, p = .int .i64 i ∧ i ≤ j ∧ J (pairsU j ++ (List.range i).map fun i => (i, j)) wr) (fun p _ => j - (intOf p).toNat)
   case atStart => exact ⟨0, rfl, by omega, by simpa using hJs⟩
   case round =>
    obtain ⟨i, rfl, hi, hJi⟩ := hrel
    by_cases hij : i < j
    ·have i2 : (i : Int) < j := by omega
     obtain ⟨rest, hrest⟩ := pairsU_at hlt hij
     obtain ⟨fn, tmps, assign, body, hy, hR⟩ := hY (pairsU j ++ (List.range i).map fun i => (i, j)) (i, j) wr hJi (by rw [hrest]; simp)
     dsimp only [encP] at hy
     gi_wp2
     refine hR.mono ?_
     rintro e W3 (⟨rfl, hJ3, _⟩ | ⟨rfl, hJx3⟩)
     ·gi_wp2
      go_roundw
      case measure => first | (simp [intOf]; done) | (simp [intOf]; omega)
      case rel => exact ⟨i + 1, by go_num, by omega, by rw [List.range_succ, List.map_append]; simpa using hJ3⟩
     ·gi_wp2
      refine bodyPost_ret (results_none rfl _ _ _) rfl ?_
      exact ⟨⟨_, rfl⟩, .inr ⟨_, ⟨rest, by rw [hrest]; simp⟩, hJx3⟩⟩
    ·have i2 : ¬ (i : Int) < j := by omega
     obtain rfl : i = j := by omega
     gi_wp2
     go_roundw
     case measure => first | (simp [intOf]; done) | (simp [intOf]; omega)
     case rel => exact ⟨i + 1, by go_num, by omega, hJi⟩
  ·have i1 : ¬ (j : Int) < N := by omega
   obtain rfl : j = N := by omega
   gi_wp2
   go_end0
   exact ⟨⟨_, rfl⟩, .inl hJs⟩
theorem pairs_in (F : Fence) (n : Nat) (h5 : F.fn 103) (hro : F.round = none) (N : Int) (w : World) :
    CallsIn F n Tryz.prog 103 #[.int .i64 N] w fun e w' => e = .returned (.func (.func 182) #[] #[.pointer (some ⟨w.heap.size, 0, none⟩)]) ∧ w' = w.alloc (.cells #[.int .i64 N] 3) := by
 refine callsIn_of_wp Tryz.func103 rfl h5 ?_ hro
 simp only [Tryz.ntmps103, List.size_toArray, List.length_cons, List.length_nil, Nat.reduceAdd, Nat.reduceSub, Array.replicate_succ, Array.replicate_zero, List.push_toArray, List.append_toArray, List.nil_append, List.cons_append]
 gi_wp2
 go_ret
 exact ⟨rfl, rfl⟩
theorem pairs_stops (F : Fence) (n : Nat) (h6 : F.fn 182) (hro : F.round = none) (hn : 1 ≤ n) (Bn n₀ N : Nat) (hN : N ≤ 64) (w : World) (hBn : Bn < w.heap.size) (hn₀ : n₀ ≤ w.heap.size)
    (hc : w.cell? ⟨Bn, 0, none⟩ = some (.int .i64 N)) :
    SeqStopsK F n Tryz.prog 182 #[.pointer (some ⟨Bn, 0, none⟩)] encP (Below n₀) (fun ys => ys = pairsU N) (fun pre => pre <+: pairsU N) (pairsU N).length w := fun l J Jx W hW _ _ hY h0 =>
 pairs1_in F n h6 hro hn l Bn n₀ N hN J Jx hY W ((hW.cell (p := ⟨Bn, 0, none⟩) hBn).trans hc) h0
def cellsP (ps : List (Nat × Nat)) : List Value := ps.flatMap fun x => [.int .i64 x.1, .int .i64 x.2]
theorem cellsP_app (a b : List (Nat × Nat)) : cellsP (a ++ b) = cellsP a ++ cellsP b := by simp [cellsP]
theorem pairsU_len (N : Nat) : (pairsU N).length ≤ N * N := by
 induction N with
 | zero => simp [pairsU]
 | succ N ih =>
   show (pairsU N ++ _).length ≤ _
   rw [List.length_append, List.length_map, List.length_range, Nat.mul_succ, Nat.succ_mul]
   omega
theorem Tryz.infPair : (Tryz.prog.info? 23).map (fun i => (i.zero, i.size, i.bytes)) = some (some (.agg #[.int .i64 0, .int .i64 0]), 2, 16) := by kernel_rfl
theorem Tryz.slPairs : Tryz.prog.underlying 30 = some (.slice 23) := by kernel_rfl
theorem res_pairs {fn : Func} {p : Tmp} (h : fn.results = #[.cell p 30]) (tmps : Array Value) (w : World) (g : Nat) (v : Value) (hp : tmps.getD p undef = .pointer (some ⟨g, 0, none⟩)) (hc : w.cell? ⟨g, 0, none⟩ = some v) :
    (results fn tmps).run Tryz.prog w = .ok v w := by
 have hp' : tmps[p]?.getD undef = .pointer (some ⟨g, 0, none⟩) := by simpa using hp
 have hu := Tryz.slPairs
 simp [results, h, hp', asAddr, loadVar, go_sem, hu, hc]
theorem cell_two_new (W : World) (a b : Value) (t : TypeId) : ∀ j u, [a, b][j]? = some u → (W.alloc (.cells #[a, b] t)).cell? ((⟨W.heap.size, 0, none⟩ : Addr).add j) = some u := fun j u hu => by
 obtain ⟨ad, e, _, hc⟩ := (Rd.new_ W #[a, b] t 1 2 rfl).2 (by omega)
 injection e with e
 subst e
 exact hc j u hu
theorem bk_ownFrom {B Bx : Nat} {t : TypeId} {cs : Array Value} : OwnFrom B (fun (_ : Unit) W => Bk W Bx t cs) := fun _ X Y row h hg hr => h.grown hg fun e => by
 obtain ⟨_, o, ho, hcells⟩ := hr Bx e.symm
 have h2 : X.heap[Bx]? = some (.cells cs t (0, 0)) := h
 rw [h2] at ho
 cases ho
 cases hcells
attribute [local go_sem] Oper.semAt_some
theorem all_in (F : Fence) (n : Nat) (h3 : F.fn 36) (h4 : F.fn 103) (h5 : F.fn 182) (hro : F.round = none) (hn : 3 ≤ n) (k : Int) (N : Nat) (hN : max 0 (min k 64) = (N : Int)) (w : World) :
    CallsIn F n Tryz.prog 36 #[.int .i64 k] w fun e W' => ∃ v, e = .returned v ∧ W'.ownsRow w.heap.size 23 2 v (pairsU N).length (cellsP (pairsU N)) ∧ Below w.heap.size w W' := by
 have h1 : 1 ≤ n := by omega
 have hN64 : N ≤ 64 := by omega
 obtain ⟨i0, hi, hz0, hz1, hz2⟩ := info_parts Tryz.infPair
 have hlen := pairsU_len N
 have h64 : N * N ≤ 64 * 64 := Nat.mul_le_mul hN64 hN64
 refine callsIn_of_wp_marks Tryz.func36 rfl h3 ?_ hro
 simp only [Tryz.ntmps36, List.size_toArray, List.length_cons, List.length_nil, Nat.reduceAdd, Nat.reduceSub, Array.replicate_succ, Array.replicate_zero, List.push_toArray, List.append_toArray, List.nil_append, List.cons_append]
 gi_wp2_with (gi_at_call 103; refine (pairs_in F (n - 1) h4 hro _ _).mono ?_; rintro e w' ⟨rfl, rfl⟩)
 have bL := (Boxed.new w 30 (.slice none 0 0)).alloc (.cells #[.int .i64 N] 3)
 have bN := Boxed.new (w.alloc (.cells #[.slice none 0 0] 30)) 3 (.int .i64 N)
 rw [World.size_alloc] at bN
 have hB0 : Below w.heap.size w ((w.alloc (.cells #[.slice none 0 0] 30)).alloc (.cells #[.int .i64 N] 3)) := ((Below.refl _ w).alloc (Nat.le_refl _) _).alloc (by simp) _
 have hsz : ((w.alloc (.cells #[.slice none 0 0] 30)).alloc (.cells #[.int .i64 N] 3)).heap.size = w.heap.size + 2 := by simp
 obtain ⟨W0, hW0⟩ : ∃ W0, (w.alloc (.cells #[.slice none 0 0] 30)).alloc (.cells #[.int .i64 N] 3) = W0 := ⟨_, rfl⟩
 rw [hW0] at bL bN hB0 hsz ⊢
 clear hW0
 refine wpIn_rangeFunc_ownH hro h1 (gf := 182) (lb := #[.pointer (some ⟨w.heap.size + 1, 0, none⟩)]) rfl h5 (enters_of Tryz.func182 (by kernel_rfl) rfl)
  (pairs_stops F (n - 1) h5 hro (by omega) (w.heap.size + 1) w.heap.size N hN64 W0 (by omega) (by omega) bN.cell) belowK_t (belowK_b (by omega)) (Below.refl _ _) (fun _ => rfl)
  (fun pre W => (∃ v, Boxed W w.heap.size 30 v ∧ W.ownsRow w.heap.size 23 2 v pre.length (cellsP pre) ∧ True) ∧ Below w.heap.size w W)
  (fun _ _ _ => False)
  (OwnFrom.and (Own.from (holdsRow_own w.heap.size w.heap.size 30 23 2 (fun pre => pre.length) cellsP (fun _ _ => True)) _) (ownFrom_below (Nat.le_refl _) (by omega)))
  (fun _ _ _ _ _ hs _ _ => hs)
  ⟨⟨_, bL, World.ownsRow_nil _ _ _ _, trivial⟩, hB0⟩
  (fun x a' W => ∃ Bx, w.heap.size < Bx ∧ Bk W Bx 23 #[.int .i64 x.1, .int .i64 x.2] ∧ a' = { tmps := #[.int .i64 k, undef, .pointer (some ⟨w.heap.size, 0, none⟩), .pointer (some ⟨Bx, 0, none⟩), .int .i64 k, .int .i64 (min k 64), .int .i64 N, .func (.func 182) #[] #[.pointer (some ⟨w.heap.size + 1, 0, none⟩)], .agg #[.int .i64 x.1, .int .i64 x.2], undef, undef, undef, undef, undef], defers := [] })
  (fun x a' _ X Y row hs hg hr => by obtain ⟨Bx, h1, h2, h3⟩ := hs; exact ⟨Bx, h1, bk_ownFrom () X Y row h2 hg hr, h3⟩)
  ?assign ?body ?done ?stop
 case assign =>
  rintro l pre x W K ⟨⟨v, hv, hrow, _⟩, hB⟩ hK
  dsimp only [encP]
  gi_wp2
  exact hK _ _ ((KeepsOthers.alloc _ _).from _) ((Below.refl _ W).alloc hB.size _) ⟨⟨v, hv.alloc _, hrow.alloc _, trivial⟩, hB.alloc hB.size _⟩ ⟨W.heap.size, hv.lt, Bk.new_ W 23 _, rfl⟩
 case body =>
  rintro l pre x a' W hl ⟨r, hr⟩ ⟨⟨v, hv, hrow, _⟩, hB⟩ ⟨Bx, hBx, bX, rfl⟩ hlt
  have hc := hv.cell
  obtain ⟨x0, x1⟩ := bX.two'
  gi_wp2_with (gi_at_builtin; refine wpListIn_append_own _ rfl _ _ 30 rfl w.heap.size 23 i0 _ 2 16 Tryz.slPairs hi hz0 hz1 hz2 rfl (by decide) _ _ _ rfl (hrow.alloc _) ⟨W.heap.size, 0, none⟩ 1 1 [.int .i64 x.1, .int .i64 x.2] rfl rfl (cell_two_new _ _ _ _) (by simp [Value.oneCell']) (by unfold maxLen; omega) (by omega) (by have := hB.size; simp; omega) ?_; intro v' w1 hown' hgrow _; obtain ⟨g', cap', rfl⟩ := ownsRow_succ hown'; obtain ⟨hv1, hv2, hr2, hk2, hb2⟩ := hv.appended (by decide) hrow hB.size (Nat.le_refl _) hown' hgrow; have hc1 := hv1.cell; have hf1 := hv1.frozen)
  exact ⟨hk2.from _, hb2, ⟨_, hv2, by rw [cellsP_app]; simpa [cellsP] using hr2, trivial⟩, hB.trans hb2⟩
 case done =>
  rintro D ys W hD rfl ⟨⟨v, hv, hrow, _⟩, hB⟩ hK
  have hc := hv.cell
  have hf := hv.frozen
  have hf := hv.frozen
  have hnr := hv.not_row (by decide) hrow
  have hK' := (KeepsOthers.setCell W ⟨w.heap.size, 0, none⟩ v).same D _ hK rfl
  have hrow' := hrow.kept (grownBy_setCell' W w.heap.size v) (.inr hnr.symm)
  have hb := (hv.set v).cell
  have hres := (belowK_b (w := w) (Nat.le_refl _) _ D _ (Obj.deferred none) (by omega) hK' rfl rfl)
  have hbb : ((W.setCell ⟨w.heap.size, 0, none⟩ v).putObj D (.deferred none)).cell? ⟨w.heap.size, 0, none⟩ = some v := ((hv.set v).kept (grownBy_putObj' _ D _) (by simp; omega)).cell
  have hBB := (hB.setCell (p := ⟨w.heap.size, 0, none⟩) (Nat.le_refl _) v).trans hres
  have hown := ownsRow_putObj hrow' (Obj.deferred none) hK' rfl
  rcases hrow.2 with ⟨e, -⟩ | ⟨g, cap, cur, e, hg, ho, hr'⟩
  all_goals
   subst e
   gi_wp2
   refine ⟨by simp, .inl ⟨_, _, rfl, run_takeDeferred hK', ?_⟩⟩
   exact ⟨_, res_pairs rfl _ _ _ _ rfl hbb, _, rfl, hown, hBB⟩
 case stop =>
  rintro D c pre W _ _ h _
  exact h.elim
def cellsI (ps : List (Int × Int)) : List Value := ps.flatMap fun x => [.int .i64 x.1, .int .i64 x.2]
def allP (k : Int) : List (Int × Int) := (pairsU (max 0 (min k 64)).toNat).map fun x => ((x.1 : Int), (x.2 : Int))
theorem cells_all (l : List (Nat × Nat)) : cellsI (l.map fun x => ((x.1 : Int), (x.2 : Int))) = cellsP l := by
 induction l with
 | nil => rfl
 | cons x r ih => simpa [cellsI, cellsP] using ih
theorem cellsI_at {ps : List (Int × Int)} : ∀ {j : Nat} {x : Int × Int}, ps[j]? = some x → (cellsI ps)[j * 2]? = some (.int .i64 x.1) ∧ (cellsI ps)[j * 2 + 1]? = some (.int .i64 x.2) := by
 induction ps with
 | nil => intro j x h; cases h
 | cons y r ih =>
   intro j x h
   cases j with
   | zero => cases h; exact ⟨rfl, rfl⟩
   | succ j =>
     have := ih (j := j) (x := x) (by simpa using h)
     rw [show (j + 1) * 2 = j * 2 + 1 + 1 by omega]
     exact this
def RPrs (w : World) (A : Option Addr) (ps : List (Int × Int)) : Prop := Rd w w.heap.size 2 A ps.length (cellsI ps)
section
variable {w w' : World} {A : Option Addr} {ps : List (Int × Int)}
theorem RPrs.up (h : RPrs w A ps) (hb : Below w.heap.size w w') : RPrs w' A ps := Rd.up h hb
theorem RPrs.nil (w : World) (A : Option Addr) : RPrs w A [] := Rd.nil
theorem RPrs.get (h : RPrs w A ps) {j : Nat} (hj : j < ps.length) : ∃ (ad : Addr) (x y : Int), A = some ad ∧ ad.block < w.heap.size ∧ Hd (ps[j]? = some (x, y)) ∧
    w.cell? (ad.add (j * 2)) = some (.int .i64 x) ∧ w.cell? ⟨(ad.add (j * 2)).block, (ad.add (j * 2)).off + 1, none⟩ = some (.int .i64 y) := by
 obtain ⟨ad, e, hb, hc⟩ := h.2 (by omega)
 have hx := List.getElem?_eq_getElem hj
 obtain ⟨h0, h1⟩ := cellsI_at hx
 refine ⟨ad, ps[j].1, ps[j].2, e, hb, ⟨hx⟩, hc _ _ h0, ?_⟩
 rw [← add_pos _ _ 1 (by omega)]
 exact hc _ _ h1
end
theorem pair_All (k : Int) (w : World) :
    Calls Tryz.prog 36 #[.int .i64 k] w fun e W' => ∃ A c, e = .returned (.slice A (allP k).length c) ∧ RPrs W' A (allP k) ∧ Below w.heap.size w W' := by
 have h := callsIn_wide.1 (all_in Fence.wide 3 trivial trivial trivial rfl (Nat.le_refl _) k (max 0 (min k 64)).toNat (by omega) w)
 refine h.mono ?_
 rintro e W' ⟨v, rfl, hr, hb⟩
 have hl : (allP k).length = (pairsU (max 0 (min k 64)).toNat).length := by unfold allP; rw [List.length_map]
 have hc : cellsI (allP k) = cellsP (pairsU (max 0 (min k 64)).toNat) := cells_all _
 rw [← hl, ← hc] at hr
 have hf : ∃ A c, v = .slice A (allP k).length c := by
  rcases hr.2 with ⟨e, e0⟩ | ⟨g, cap, cur, e, -⟩
  ·exact ⟨none, 0, by rw [e, e0]⟩
  ·exact ⟨_, _, e⟩
 obtain ⟨A, c, rfl⟩ := hf
 exact ⟨A, c, rfl, Rd.of_own hr, hb⟩
end Go.Proofs.YtgjkgkgieeoalaaGreat
namespace Go.Proofs.YtgjkgkgieeoalaaGreat
open Go.RowKit Go.PlainAid
def s13A : ByteArray := ⟨#[120, 94, 50, 32, 45, 32, 121]⟩
def s13B : ByteArray := ⟨#[120, 42, 121, 32, 45, 32, 49]⟩
def s13C : ByteArray := ⟨#[120, 32, 45, 32, 121, 94, 50]⟩
theorem parse13A : parseD 0 s13A = (0, [⟨ofD 1, ⟨2, 0, 0, 0⟩⟩, ⟨ofD (-1), ⟨0, 1, 0, 0⟩⟩]) := by kernel_rfl
theorem parse13B : parseD 0 s13B = (0, [⟨ofD 1, ⟨1, 1, 0, 0⟩⟩, ⟨ofD (-1), ⟨0, 0, 0, 0⟩⟩]) := by kernel_rfl
theorem parse13C : parseD 0 s13C = (0, [⟨ofD 1, ⟨1, 0, 0, 0⟩⟩, ⟨ofD (-1), ⟨0, 2, 0, 0⟩⟩]) := by kernel_rfl
theorem cross13 : crossD 0 [⟨ofD 1, ⟨2, 0, 0, 0⟩⟩, ⟨ofD (-1), ⟨0, 1, 0, 0⟩⟩] [⟨ofD 1, ⟨1, 1, 0, 0⟩⟩, ⟨ofD (-1), ⟨0, 0, 0, 0⟩⟩] = (0, [⟨ofD 1, ⟨1, 0, 0, 0⟩⟩, ⟨ofD (-1), ⟨0, 2, 0, 0⟩⟩]) := by kernel_rfl
theorem all13 : (allP 3).length = 3 := by kernel_rfl
theorem short13 {a b : Int} {m m' : MonD} (ha : a.natAbs < 18446744073709551616) (hb : b.natAbs < 18446744073709551616) : shortP [⟨ofD a, m⟩, ⟨ofD b, m'⟩] := ⟨by simp, fun s hs => by
 simp only [List.mem_cons, List.not_mem_nil, or_false] at hs
 rcases hs with rfl | rfl
 ·exact ofD_short a ha
 ·exact ofD_short b hb⟩
theorem same_13 {b0 : Nat} {A B : Option Addr} {c d : Nat} {X : List TermD} {w : World} (h : RPol w b0 A X) (hc : X.length ≤ c) (hs : shortP X) (h' : RPol w b0 B X) (hd : X.length ≤ d) :
    Calls Tryz.prog 80 #[.slice A X.length c, .slice B X.length d] w fun e w' => e = .returned (.bool true) ∧ Below w.heap.size w w' := by
 have := rpol_Same b0 A B c d X X w h hc hs h' hd hs
 rwa [decide_eq_true rfl] at this
theorem law13_text (b0 : Nat) (s : ByteArray) (w : World) (hb0 : b0 ≤ w.heap.size) (hs : s.size ≤ 1000000) {X : List TermD} (hX : parseD 0 s = (0, X)) :
    Calls Tryz.prog 88 #[.string s] w fun e w' => ∃ A c, e = .returned (.slice A X.length c) ∧ X.length ≤ c ∧ RPol w' b0 A X ∧ Below w.heap.size w w' := by
 have CP := Hd.mk (ref_Parse b0 0 s w hb0 hs)
 rw [hX] at CP
 clear hX
 go_enter Tryz.func88, Tryz.ntmps88
 go_wp2_with fail
 refine CP.out.mono ?_
 rintro e w2 ⟨A, c, rfl, hc, hr, hb⟩
 have HR := Hd.mk hr
 have HB := Hd.mk hb
 clear hr hb
 go_wp2_with fail
 go_ret
 exact ⟨A, c, rfl, hc, HR.out, HB.out⟩
theorem law13_shown (w : World) : Calls Tryz.prog 27 #[] w fun e w' => e = .returned (.bool true) ∧ Below w.heap.size w w' := by
 have CA := Hd.mk (fun W (hB : Below w.heap.size w W) => law13_text w.heap.size s13A W hB.size (by decide) parse13A)
 have CB := Hd.mk (fun W (hB : Below w.heap.size w W) => law13_text w.heap.size s13B W hB.size (by decide) parse13B)
 have CC := Hd.mk (fun W (hB : Below w.heap.size w W) => law13_text w.heap.size s13C W hB.size (by decide) parse13C)
 have SA : Hd (shortP [⟨ofD 1, ⟨2, 0, 0, 0⟩⟩, ⟨ofD (-1), ⟨0, 1, 0, 0⟩⟩]) := ⟨short13 (by decide) (by decide)⟩
 have SB : Hd (shortP [⟨ofD 1, ⟨1, 1, 0, 0⟩⟩, ⟨ofD (-1), ⟨0, 0, 0, 0⟩⟩]) := ⟨short13 (by decide) (by decide)⟩
 have SC : Hd (shortP [⟨ofD 1, ⟨1, 0, 0, 0⟩⟩, ⟨ofD (-1), ⟨0, 2, 0, 0⟩⟩]) := ⟨short13 (by decide) (by decide)⟩
 have HD := Hd.mk cross13
 have CN := Hd.mk (pair_All 3)
 rw [all13] at CN
 obtain ⟨PA, hA⟩ : ∃ PA : List TermD, [⟨ofD 1, ⟨2, 0, 0, 0⟩⟩, ⟨ofD (-1), ⟨0, 1, 0, 0⟩⟩] = PA := ⟨_, rfl⟩
 obtain ⟨PB, hB⟩ : ∃ PB : List TermD, [⟨ofD 1, ⟨1, 1, 0, 0⟩⟩, ⟨ofD (-1), ⟨0, 0, 0, 0⟩⟩] = PB := ⟨_, rfl⟩
 obtain ⟨PC, hC⟩ : ∃ PC : List TermD, [⟨ofD 1, ⟨1, 0, 0, 0⟩⟩, ⟨ofD (-1), ⟨0, 2, 0, 0⟩⟩] = PC := ⟨_, rfl⟩
 rw [hA] at CA SA HD
 rw [hB] at CB SB HD
 rw [hC] at CC SC HD
 clear hA hB hC
 unfold s13A at CA
 unfold s13B at CB
 unfold s13C at CC
 go_enter Tryz.func27, Tryz.ntmps27
 go_wp2_with fail
 refine (CA.out _ (.refl _ _)).mono ?_
 rintro e w1 ⟨A1, c1, rfl, hc1, hr, hb⟩
 have HR1 := Hd.mk hr
 have HB1 := Hd.mk hb
 clear hr hb CA
 go_wp2_with fail
 refine (CB.out _ HB1.out).mono ?_
 rintro e w2 ⟨A2, c2, rfl, hc2, hr, hb⟩
 have HR2 := Hd.mk (HR1.out.up hb)
 have HQ2 := Hd.mk hr
 have HB2 := Hd.mk (goes HB1.out hb)
 clear hr hb CB HR1 HB1
 have CR := Hd.mk (pair_Cross w.heap.size 0 A1 A2 c1 c2 PA PB w2 HB2.out.size HR2.out HQ2.out hc1 hc2 SA.out SB.out)
 rw [HD.out] at CR
 dsimp only at CR
 go_wp2_with fail
 refine CR.out.mono ?_
 rintro e w3 ⟨A3, c3, rfl, hc3, hr, hb⟩
 have HR3 := Hd.mk hr
 have HB3 := Hd.mk (goes HB2.out hb)
 clear hr hb CR HR2 HQ2 HB2
 go_wp2_with fail
 refine (CC.out _ HB3.out).mono ?_
 rintro e w4 ⟨A4, c4, rfl, hc4, hr, hb⟩
 have HR4 := Hd.mk (HR3.out.up hb)
 have HQ4 := Hd.mk hr
 have HB4 := Hd.mk (goes HB3.out hb)
 clear hr hb CC HR3 HB3
 have CS := Hd.mk (same_13 HR4.out hc3 SC.out HQ4.out hc4)
 go_wp2_with fail
 refine CS.out.mono ?_
 rintro e w5 ⟨rfl, hb⟩
 have HB5 := Hd.mk (goes HB4.out hb)
 clear hb CS
 go_wp2_with fail
 refine (CN.out w5).mono ?_
 rintro e w6 ⟨A6, c6, rfl, -, hb⟩
 have HB6 := Hd.mk (goes HB5.out hb)
 clear hb CN
 go_wp2_with fail
 go_ret
 exact ⟨rfl, HB6.out⟩
end Go.Proofs.YtgjkgkgieeoalaaGreat
namespace Go.Proofs.YtgjkgkgieeoalaaGreat
open Go.RowKit
theorem smP_short13 {o : Int} {p : List TermD} (h : SmP o p) : shortP p := h.pol.ints.short (by decide) (by have := h.len; omega)
theorem goodP_short {p : List TermD} (h : GoodP p) (hl : p.length ≤ 60) : shortP p := ⟨by omega, fun t ht => by
 obtain ⟨h1, h2, _⟩ := ratMay_of (h t ht).c.may
 have := natMay_len h1
 have := natMay_len h2
 exact ⟨by omega, by omega⟩⟩
theorem oOk_mod3' {a : Int} (h : 0 ≤ a) : oOk (a % 3) := ⟨by omega, by omega⟩
theorem made13_call {o : Int} (ho : oOk o) {w : World} {A B : Option Addr} {c d : Nat} {ns : List Int} {ms : List (Int × Int × Int)} (h : RSm w A c B d ns ms) :
    ∃ P, SmP o P ∧ ∀ W, Below w.heap.size w W → Calls Tryz.prog 26 #[.int .i64 o, .agg #[.slice A ns.length c, .slice B ms.length d]] W fun e w' => ∃ A' c', e = .returned (.slice A' P.length c') ∧
     P.length ≤ c' ∧ RPol w' w.heap.size A' P ∧ Below W.heap.size W w' :=
 ⟨_, madeE_sm ho h, fun W hB => law13_made w.heap.size o A B c d ns ms W hB.size (h.up hB)⟩
def rightD (n : Nat) (x : Int × Int) : Bool := decide (0 ≤ x.1) && decide (x.1 < x.2) && decide (x.2 < (n : Int))
theorem rightD_of {n : Nat} {x : Int × Int} (h : rightD n x = true) : 0 ≤ x.1 ∧ x.1 < x.2 ∧ x.2 < n := by
 unfold rightD at h
 simpa [and_assoc] using h
def cellsM (ls : List MonD) : List Value := ls.flatMap fun m => [.int .i64 m.x0, .int .i64 m.x1, .int .i64 m.x2, .int .i64 m.x3]
theorem cellsM_at {ls : List MonD} : ∀ {j : Nat} {m : MonD}, ls[j]? = some m → (cellsM ls)[j * 4]? = some (.int .i64 m.x0) ∧ (cellsM ls)[j * 4 + 1]? = some (.int .i64 m.x1) ∧ (cellsM ls)[j * 4 + 2]? = some (.int .i64 m.x2) ∧ (cellsM ls)[j * 4 + 3]? = some (.int .i64 m.x3) := by
 induction ls with
 | nil => intro j m h; cases h
 | cons y r ih =>
   intro j m h
   cases j with
   | zero => cases h; exact ⟨rfl, rfl, rfl, rfl⟩
   | succ j =>
     have := ih (j := j) (m := m) (by simpa using h)
     rw [show (j + 1) * 4 = j * 4 + 1 + 1 + 1 + 1 by omega, show j * 4 + 1 + 1 + 1 + 1 + 1 = (j * 4 + 1) + 1 + 1 + 1 + 1 by omega, show j * 4 + 1 + 1 + 1 + 1 + 2 = (j * 4 + 2) + 1 + 1 + 1 + 1 by omega, show j * 4 + 1 + 1 + 1 + 1 + 3 = (j * 4 + 3) + 1 + 1 + 1 + 1 by omega]
     exact this
def RMons (w : World) (A : Option Addr) (ls : List MonD) : Prop := Rd w w.heap.size 4 A ls.length (cellsM ls)
section
variable {w w' : World} {A : Option Addr} {ls : List MonD}
theorem RMons.up (h : RMons w A ls) (hb : Below w.heap.size w w') : RMons w' A ls := Rd.up h hb
theorem RMons.nil (w : World) (A : Option Addr) : RMons w A [] := Rd.nil
theorem RMons.get (h : RMons w A ls) {j : Nat} (hj : j < ls.length) : ∃ (ad : Addr) (m : MonD), A = some ad ∧ ad.block < w.heap.size ∧ Hd (ls[j]? = some m) ∧
    w.cell? (ad.add (j * 4)) = some (.int .i64 m.x0) ∧ w.cell? ⟨(ad.add (j * 4)).block, (ad.add (j * 4)).off + 1, none⟩ = some (.int .i64 m.x1) ∧
    w.cell? ⟨(ad.add (j * 4)).block, (ad.add (j * 4)).off + 2, none⟩ = some (.int .i64 m.x2) ∧ w.cell? ⟨(ad.add (j * 4)).block, (ad.add (j * 4)).off + 3, none⟩ = some (.int .i64 m.x3) := by
 obtain ⟨ad, e, hb, hc⟩ := h.2 (by omega)
 have hx := List.getElem?_eq_getElem hj
 obtain ⟨h0, h1, h2, h3⟩ := cellsM_at hx
 refine ⟨ad, ls[j], e, hb, ⟨hx⟩, hc _ _ h0, ?_, ?_, ?_⟩
 ·rw [← add_pos _ _ 1 (by omega)]; exact hc _ _ h1
 ·rw [← add_pos _ _ 2 (by omega)]; exact hc _ _ h2
 ·rw [← add_pos _ _ 3 (by omega)]; exact hc _ _ h3
end
theorem Bk.pair {w : World} {g : Nat} {t : TypeId} {v0 v1 : Value} (h : Bk w g t #[v0, v1]) : w.cell? ⟨g, 0, none⟩ = some v0 ∧ w.cell? ⟨g, 1, none⟩ = some v1 := ⟨by rw [h.cell]; rfl, by rw [h.cell]; rfl⟩
theorem pair_right (A : Option Addr) (n c : Nat) (x y : Int) (w : World) :
    Calls Tryz.prog 89 #[.slice A n c, .agg #[.int .i64 x, .int .i64 y]] w fun e w' => e = .returned (.bool (rightD n (x, y))) ∧ Below w.heap.size w w' := by
 obtain ⟨E, hE⟩ : ∃ E, rightD n (x, y) = E := ⟨_, rfl⟩
 rw [hE]
 have HE := Hd.mk hE
 clear hE
 by_cases h0 : 0 ≤ x
 case neg =>
  have HF : Hd (E = false) := ⟨by rw [← HE.out]; unfold rightD; simp [h0]⟩
  go_enter Tryz.func89, Tryz.ntmps89
  go_wp2_with fail
  go_ret
  exact ⟨retBool HF.out.symm, (Below.refl _ _).alloc (Nat.le_refl _) _⟩
 by_cases h1 : x < y
 case neg =>
  have HF : Hd (E = false) := ⟨by rw [← HE.out]; unfold rightD; simp [h1]⟩
  go_enter Tryz.func89, Tryz.ntmps89
  go_wp2_with fail
  go_ret
  exact ⟨retBool HF.out.symm, (Below.refl _ _).alloc (Nat.le_refl _) _⟩
 by_cases h2 : y < n
 case neg =>
  have HF : Hd (E = false) := ⟨by rw [← HE.out]; unfold rightD; simp [h2]⟩
  go_enter Tryz.func89, Tryz.ntmps89
  go_wp2_with fail
  go_ret
  exact ⟨retBool HF.out.symm, (Below.refl _ _).alloc (Nat.le_refl _) _⟩
 have HF : Hd (E = true) := ⟨by rw [← HE.out]; unfold rightD; simp [h0, h1, h2]⟩
 go_enter Tryz.func89, Tryz.ntmps89
 go_wp2_with fail
 go_ret
 exact ⟨retBool HF.out.symm, (Below.refl _ _).alloc (Nat.le_refl _) _⟩
def atM (ls : List MonD) (x : Int) : MonD := ls.getD x.toNat zeroM
def apartD (ls : List MonD) (x : Int × Int) : Bool := rightD ls.length x && monCop (atM ls x.1) (atM ls x.2)
theorem atM_of {ls : List MonD} {i : Nat} {m : MonD} (h : ls[i]? = some m) : atM ls i = m := by
 unfold atM
 rw [Int.toNat_natCast, List.getD_eq_getElem?_getD, h]
 rfl
theorem mono_Coprime' (a b : MonD) (w : World) :
    Calls Tryz.prog 90 #[.agg #[.int .i64 a.x0, .int .i64 a.x1, .int .i64 a.x2, .int .i64 a.x3], .agg #[.int .i64 b.x0, .int .i64 b.x1, .int .i64 b.x2, .int .i64 b.x3]] w fun e w' =>
     e = .returned (.bool (monCop a b)) ∧ Below w.heap.size w w' := (mono_Coprime a b w).mono fun _ _ ⟨h1, h2⟩ => ⟨h1, h2.lo⟩
theorem pair_Apart (A : Option Addr) (c : Nat) (ls : List MonD) (x y : Int) (w : World) (h : RMons w A ls) (hl : ls.length ≤ 1000000) :
    Calls Tryz.prog 28 #[.slice A ls.length c, .agg #[.int .i64 x, .int .i64 y]] w fun e w' => e = .returned (.bool (apartD ls (x, y))) ∧ Below w.heap.size w w' := by
 obtain ⟨E, hE⟩ : ∃ E, apartD ls (x, y) = E := ⟨_, rfl⟩
 rw [hE]
 have HEQ := Hd.mk hE
 clear hE
 have HR := Hd.mk h
 clear h
 have CR := Hd.mk (fun W => pair_right A ls.length c x y W)
 cases hr : rightD ls.length (x, y)
 case false =>
  rw [hr] at CR
  have HE : Hd (E = false) := ⟨by rw [← HEQ.out]; unfold apartD; rw [hr]; rfl⟩
  clear hr
  go_enter Tryz.func28, Tryz.ntmps28
  go_upto_region 1 with (fail)
  refine wp_gen (fun W => Bk W w.heap.size 23 #[.int .i64 x, .int .i64 y] ∧ Below w.heap.size w W) ⟨Bk.new_ w 23 #[.int .i64 x, .int .i64 y], (Below.refl _ _).alloc (Nat.le_refl _) _⟩ ?_
  intro W1 H1
  obtain ⟨d0, d1⟩ := H1.out.1.pair
  have HB1 := Hd.mk H1.out.2
  have d0 := Wd.cell d0
  have d1 := Wd.cell d1
  clear H1
  refine wp_region_wd W1 (by kernel_rfl) (by kernel_rfl) (Below.refl _ _).drew ?_
  repeat (go_big_quiet_step ((go_at_call 89; exact Wd.call (CR.out _))))
  refine wd_nil fun nq => ?_
  go_wp2_with fail
  go_ret
  exact ⟨retBool HE.out.symm, goes HB1.out nq.lo⟩
 rw [hr] at CR
 obtain ⟨x0, xy, yn⟩ := rightD_of hr
 obtain ⟨i, rfl⟩ : ∃ i : Nat, x = i := ⟨x.toNat, by omega⟩
 obtain ⟨j, rfl⟩ : ∃ j : Nat, y = j := ⟨y.toNat, by omega⟩
 have hi : i < ls.length := by omega
 have hj : j < ls.length := by omega
 have i1 : (i : Int) < ls.length := by omega
 have j1 : (j : Int) < ls.length := by omega
 have i3 : (0 : Int) ≤ i := by omega
 have j3 : (0 : Int) ≤ j := by omega
 go_enter Tryz.func28, Tryz.ntmps28
 go_upto_region 1 with (fail)
 refine wp_gen (fun W => Bk W w.heap.size 23 #[.int .i64 i, .int .i64 j] ∧ Below w.heap.size w W) ⟨Bk.new_ w 23 #[.int .i64 i, .int .i64 j], (Below.refl _ _).alloc (Nat.le_refl _) _⟩ ?_
 intro W1 H1
 obtain ⟨d0, d1⟩ := H1.out.1.pair
 have HB1 := Hd.mk H1.out.2
 have d0 := Wd.cell d0
 have d1 := Wd.cell d1
 obtain ⟨ad, m, rfl, -, hm, c0, c1, c2, c3⟩ := (HR.out.up HB1.out).get hi
 obtain ⟨ad', m', e, -, hm', e0, e1, e2, e3⟩ := (HR.out.up HB1.out).get hj
 injection e with e
 subst e
 have c0 := Wd.cell c0
 have c1 := Wd.cell c1
 have c2 := Wd.cell c2
 have c3 := Wd.cell c3
 have e0 := Wd.cell e0
 have e1 := Wd.cell e1
 have e2 := Wd.cell e2
 have e3 := Wd.cell e3
 have HE : Hd (E = monCop m m') := ⟨by rw [← HEQ.out]; unfold apartD; rw [hr, atM_of hm.out, atM_of hm'.out]; rfl⟩
 have CC := Hd.mk (fun W => mono_Coprime' m m' W)
 generalize monCop m m' = b at HE CC
 clear H1 hr hm hm' x0 xy yn
 refine wp_region_wd W1 (by kernel_rfl) (by kernel_rfl) (Below.refl _ _).drew ?_
 repeat (go_big_quiet_step ((first
  | (go_at_call 89; exact Wd.call (CR.out _))
  | (go_at_call 90; exact Wd.call (CC.out _)))))
 refine wd_nil fun nq => ?_
 go_wp2_with fail
 go_ret
 exact ⟨retBool HE.out.symm, goes HB1.out nq.lo⟩
theorem Tryz.slPolys : Tryz.prog.underlying 27 = some (.slice 25) := by kernel_rfl
theorem Tryz.infPoly : (Tryz.prog.info? 25).map (fun i => (i.zero, i.size, i.bytes)) = some (some (.slice none 0 0), 1, 24) := by kernel_rfl
theorem Mat.start {w : World} {b0 base n : Nat} {V : Value} (h : w.ownsRow base 25 1 V n (List.replicate n (.slice none 0 0))) : Mat w b0 base V (List.replicate n (.slice none 0 0)) (.slice none 0 0) [] (List.replicate n []) := by
 refine ⟨by rw [List.length_replicate]; exact h, by simp, ⟨fun i p hp => ?_, fun i j p q _ hp hq g hg => ?_⟩⟩
 ·have : p = (.slice none 0 0, []) := by
    rw [List.zip_replicate', ← List.replicate_succ] at hp
    rw [List.getElem?_replicate] at hp
    split at hp
    ·injection hp with hp; exact hp.symm
    ·cases hp
  subst this
  exact OwnT.nil _ _ _
 ·have : p = (.slice none 0 0, []) := by
    rw [List.zip_replicate', ← List.replicate_succ] at hp
    rw [List.getElem?_replicate] at hp
    split at hp
    ·injection hp with hp; exact hp.symm
    ·cases hp
  subst this
  simp [Value.ownBlock] at hg
def needF (k : Nat) (r : List TermD) : Nat := (400 - k) * 61 + (60 - r.length) + 1
theorem splitD_bad1 {o : Int} {p : List TermD} {l : List (List TermD)} (h : (polMay o p && decide (l.length ≤ 24) && l.all (polMay o)) = false) : splitD o p l = (1, [], []) := if_pos h
def SplitPost (b0 : Nat) (w : World) (D : Int × List (List TermD) × List TermD) (e : Ending) (w' : World) : Prop :=
 ∃ Q qc R rc, e = .returned (.tuple #[.slice Q D.2.1.length qc, .slice R D.2.2.length rc, .int .i64 D.1]) ∧ D.2.1.length ≤ qc ∧ D.2.2.length ≤ rc ∧ RPols w' b0 Q D.2.1 ∧ RPol w' b0 R D.2.2 ∧ Below w.heap.size w w'
theorem SplitPost.bad {b0 : Nat} {w w' : World} {D : Int × List (List TermD) × List TermD} {E : Int} (h : D = (E, [], [])) (hb : Below w.heap.size w w') : SplitPost b0 w D (.returned (.tuple #[.slice none 0 0, .slice none 0 0, .int .i64 E])) w' := by
 subst h
 exact ⟨none, 0, none, 0, rfl, Nat.le_refl _, Nat.le_refl _, RPols.nil _ _ _, RPol.nil _ _ _, hb⟩
theorem splitF_move {o : Int} {l qs : List (List TermD)} {n k i : Nat} {t : TermD} {p r b q : List TermD} {m : MonD} {E : Int × (List TermD × List TermD)} (h : dividesD l t.m = some (i, m)) (hi : l[i]? = some b) (hq : qs[i]? = some q) (hE : moveD o (t :: p) b q k m = E) :
    splitF o l (n + 1) (t :: p) qs r k = if E.1 ≠ 0 then (E.1, [], []) else splitF o l n E.2.1 (qs.set i E.2.2) r (k + 1) := by
 have e1 : l.getD i [] = b := by rw [List.getD_eq_getElem?_getD, hi]; rfl
 have e2 : qs.getD i [] = q := by rw [List.getD_eq_getElem?_getD, hq]; rfl
 conv => lhs; unfold splitF
 rw [h]
 simp only [e1, e2, hE]
theorem splitF_rest {o : Int} {l qs : List (List TermD)} {n k : Nat} {t : TermD} {p r : List TermD} (h : dividesD l t.m = none) :
    splitF o l (n + 1) (t :: p) qs r k = if 60 ≤ r.length then (90, [], []) else splitF o l n p qs (r ++ [t]) k := by
 conv => lhs; unfold splitF
 rw [h]
def shiftD (i : Nat) (x : Option (Nat × MonD)) : Option (Nat × MonD) := x.map fun y => (y.1 + i, y.2)
theorem dividesD_skip {l : List (List TermD)} {i : Nat} {b : List TermD} {m : MonD} (hi : l[i]? = some b) (hb : ∀ u b', b = u :: b' → (monDiv m u.m).1 = false) : shiftD i (dividesD (l.drop i) m) = shiftD (i + 1) (dividesD (l.drop (i + 1)) m) := by
 have hlt := (List.getElem?_eq_some_iff.1 hi).1
 have e : l.drop i = b :: l.drop (i + 1) := by
  rw [List.drop_eq_getElem_cons hlt]
  congr 1
  rw [List.getElem?_eq_getElem hlt] at hi
  injection hi
 rw [e]
 have key : dividesD (b :: l.drop (i + 1)) m = (dividesD (l.drop (i + 1)) m).map fun x => (x.1 + 1, x.2) := by
  cases b with
  | nil => rfl
  | cons u b' =>
    conv => lhs; unfold dividesD
    rw [hb u b' rfl]
    simp
 rw [key]
 unfold shiftD
 cases dividesD (l.drop (i + 1)) m with
 | none => rfl
 | some x => simp [Nat.add_assoc, Nat.add_comm 1 i]
theorem dividesD_hit {l : List (List TermD)} {i : Nat} {u : TermD} {b' : List TermD} {m : MonD} (hi : l[i]? = some (u :: b')) (hb : (monDiv m u.m).1 = true) : shiftD i (dividesD (l.drop i) m) = some (i, (monDiv m u.m).2) := by
 have hlt := (List.getElem?_eq_some_iff.1 hi).1
 have e : l.drop i = (u :: b') :: l.drop (i + 1) := by
  rw [List.drop_eq_getElem_cons hlt]
  congr 1
  rw [List.getElem?_eq_getElem hlt] at hi
  injection hi
 rw [e]
 unfold dividesD
 rw [if_pos hb]
 simp [shiftD]
theorem dividesD_end {l : List (List TermD)} {m : MonD} : shiftD l.length (dividesD (l.drop l.length) m) = none := by
 rw [List.drop_length]; rfl
theorem dividesD_start {l : List (List TermD)} {m : MonD} : dividesD l m = shiftD 0 (dividesD (l.drop 0) m) := by
 unfold shiftD
 cases h : dividesD l m <;> simp [h]
end Go.Proofs.YtgjkgkgieeoalaaGreat
