/- Parts of the proof, joined: each theorem says what it shows. -/
import Derived.Test.YtgjkgkgieeoalaaGreatF01
import Derived.Test.YtgjkgkgieeoalaaGreatF25
import Derived.Test.YtgjkgkgieeoalaaGreatF26
import Derived.Test.YtgjkgkgieeoalaaGreatF27
import Derived.Test.YtgjkgkgieeoalaaGreatF24
import Derived.Test.YtgjkgkgieeoalaaGreatF20
import Derived.Test.YtgjkgkgieeoalaaGreatF28
import Derived.Test.YtgjkgkgieeoalaaGreatF18
import Derived.Test.YtgjkgkgieeoalaaGreatF23
import Derived.Deep.Slices
import Derived.Deep.Strs
import Derived.OpenShut
import Derived.ChangeSlices
import Derived.ChangeSame
set_option linter.unusedVariables false
set_option linter.unusedSimpArgs false
set_option maxHeartbeats 24000000
set_option maxRecDepth 100000
namespace Go.Proofs.YtgjkgkgieeoalaaGreat
open Go.RowKit
def flat3 (ms : List (Int × Int × Int)) : List Value := ms.flatMap fun m => [.int .u8 m.1, .int .u8 m.2.1, .int .u8 m.2.2]
structure RSm (w : World) (A : Option Addr) (c : Nat) (B : Option Addr) (d : Nat) (ns : List Int) (ms : List (Int × Int × Int)) : Prop where
 n : Rd w w.heap.size 1 A ns.length (ints .i8 ns)
 m : Rd w w.heap.size 3 B ms.length (flat3 ms)
 nc : ns.length ≤ c
 md : ms.length ≤ d
 nb : ∀ x ∈ ns, -128 ≤ x ∧ x ≤ 127
 mb : ∀ x ∈ ms, (0 ≤ x.1 ∧ x.1 ≤ 255) ∧ (0 ≤ x.2.1 ∧ x.2.1 ≤ 255) ∧ (0 ≤ x.2.2 ∧ x.2.2 ≤ 255)
theorem flat3_get : ∀ {ms : List (Int × Int × Int)} {i : Nat} {m : Int × Int × Int}, ms[i]? = some m →
    (flat3 ms)[i * 3]? = some (.int .u8 m.1) ∧ (flat3 ms)[i * 3 + 1]? = some (.int .u8 m.2.1) ∧ (flat3 ms)[i * 3 + 2]? = some (.int .u8 m.2.2)
 | [], i, m, h => by simp at h
 | x :: ms, 0, m, h => by
   simp only [List.getElem?_cons_zero, Option.some.injEq] at h
   subst h
   exact ⟨rfl, rfl, rfl⟩
 | x :: ms, i + 1, m, h => by
   have := flat3_get (ms := ms) (i := i) (m := m) (by simpa using h)
   have e : flat3 (x :: ms) = .int .u8 x.1 :: .int .u8 x.2.1 :: .int .u8 x.2.2 :: flat3 ms := rfl
   rw [e, show (i + 1) * 3 = i * 3 + 1 + 1 + 1 by omega]
   simpa using this
end Go.Proofs.YtgjkgkgieeoalaaGreat
namespace Go.Proofs.YtgjkgkgieeoalaaGreat
open Go.ChangeShapes Go.WideShapes Go.RowKit
theorem Tryz.arM3 : Tryz.prog.underlying 76 = some (.array 3 5) := by kernel_rfl
theorem Tryz.undU8 : Tryz.prog.underlying 5 = some (.int .u8) := by kernel_rfl
theorem Tryz.cuU8 : Tryz.prog.cellsOf 5 = 1 := by kernel_rfl
theorem Tryz.cuM3 : Tryz.prog.cellsOf 76 = 3 := by kernel_rfl
def trip (m : Int × Int × Int) : List Value := [.int .u8 m.1, .int .u8 m.2.1, .int .u8 m.2.2]
section
variable {H : Type} {enc : TypeId × Value → H} {w : World} {base : Nat} {spare : Nat → Bool} {held : Bool} {fuel : Nat} {cs : List Value} {x : DataW H × List MemPlace}
theorem rd_m3 (h : DataW.trod enc Tryz.prog w base spare held fuel 76 cs = some x) : ∃ m : Int × Int × Int, cs = trip m ∧ (0 ≤ m.1 ∧ m.1 ≤ 255) ∧ (0 ≤ m.2.1 ∧ m.2.1 ≤ 255) ∧ (0 ≤ m.2.2 ∧ m.2.2 ≤ 255) := by
 obtain ⟨xs, n, _, _, hl, hx, hi⟩ := DataW.trod_array Tryz.arM3 h
 rw [Tryz.cuM3] at hl
 have get : ∀ i, i < 3 → ∃ k : Int, (cs.drop i).take 1 = [.int .u8 k] ∧ 0 ≤ k ∧ k ≤ 255 := fun i h4 => by
  have h1 := hi i h4
  rw [Tryz.cuU8, Nat.mul_one, ai (by omega)] at h1
  obtain ⟨k, e, _, hw⟩ := DataW.trod_int Tryz.undU8 h1
  exact ⟨k, e, bounds_u8 hw⟩
 match cs, hl with
 | [v0, v1, v2], _ =>
   obtain ⟨a0, e0, b0⟩ := get 0 (by omega)
   obtain ⟨a1, e1, b1⟩ := get 1 (by omega)
   obtain ⟨a2, e2, b2⟩ := get 2 (by omega)
   simp only [List.drop_zero, List.drop_succ_cons, List.take_succ_cons, List.take_zero, List.cons.injEq, and_true] at e0 e1 e2
   subst e0 e1 e2
   exact ⟨(a0, a1, a2), rfl, b0, b1, b2⟩
end
theorem okWide_array {P : Program} {w : World} {r : Reach} {b0 n : Nat} {t e : TypeId} {v : Value} (ht : P.underlying t = some (.array n e)) (h : Value.okWide P w r b0 t v) : ∃ cs : Array Value, v = .agg cs ∧ cs.size = P.cellsOf t := by
 simp only [Value.okWide, ht] at h
 obtain ⟨cs, h1, h2, _⟩ := h
 exact ⟨cs, h1, h2⟩
theorem Sm.take {l : List TermD} (h : Sm l) (k : Nat) : Sm (l.take k) := by
 refine ⟨⟨fun t ht => h.ints.int t (List.mem_of_mem_take ht), fun t ht => h.ints.good t (List.mem_of_mem_take ht), ?_⟩, fun t ht => h.low t (List.mem_of_mem_take ht), by rw [List.length_take]; have := h.len; omega⟩
 have h1 := mass_app (l.take k) (l.drop k)
 rw [List.take_append_drop] at h1
 have := h.ints.mass
 omega
theorem Tryz.arM35 : Tryz.prog.underlying 100 = some (.array 5 76) := by kernel_rfl
theorem Tryz.cuM35 : Tryz.prog.cellsOf 100 = 15 := by kernel_rfl
section
variable {H : Type} {enc : TypeId × Value → H} {w : World} {base : Nat} {spare : Nat → Bool} {held : Bool} {fuel : Nat} {cs : List Value} {x : DataW H × List MemPlace}
theorem rd_m35 (h : DataW.trod enc Tryz.prog w base spare held fuel 100 cs = some x) : ∃ ms : List (Int × Int × Int), cs = flat3 ms ∧ ms.length = 5 ∧ ∀ m ∈ ms, (0 ≤ m.1 ∧ m.1 ≤ 255) ∧ (0 ≤ m.2.1 ∧ m.2.1 ≤ 255) ∧ (0 ≤ m.2.2 ∧ m.2.2 ≤ 255) := by
 obtain ⟨xs, n, _, _, hl, hx, hi⟩ := DataW.trod_array Tryz.arM35 h
 rw [Tryz.cuM35] at hl
 have get : ∀ i, i < 5 → ∃ m : Int × Int × Int, (cs.drop (i * 3)).take 3 = trip m ∧ (0 ≤ m.1 ∧ m.1 ≤ 255) ∧ (0 ≤ m.2.1 ∧ m.2.1 ≤ 255) ∧ (0 ≤ m.2.2 ∧ m.2.2 ≤ 255) := fun i h4 => by
  have h1 := hi i h4
  rw [Tryz.cuM3, ai (by omega)] at h1
  exact rd_m3 h1
 match cs, hl, get with
 | [v0, v1, v2, v3, v4, v5, v6, v7, v8, v9, va, vb, vc, vd, ve], _, get =>
   obtain ⟨m0, e0, b0⟩ := get 0 (by omega)
   obtain ⟨m1, e1, b1⟩ := get 1 (by omega)
   obtain ⟨m2, e2, b2⟩ := get 2 (by omega)
   obtain ⟨m3, e3, b3⟩ := get 3 (by omega)
   obtain ⟨m4, e4, b4⟩ := get 4 (by omega)
   simp only [Nat.zero_mul, Nat.one_mul, Nat.reduceMul, List.drop_zero, List.drop_succ_cons, List.take_succ_cons, List.take_zero] at e0 e1 e2 e3 e4
   refine ⟨[m0, m1, m2, m3, m4], ?_, rfl, fun m hm => ?_⟩
   ·show _ = trip m0 ++ (trip m1 ++ (trip m2 ++ (trip m3 ++ (trip m4 ++ []))))
    rw [← e0, ← e1, ← e2, ← e3, ← e4]
    rfl
   ·simp only [List.mem_cons, List.not_mem_nil, or_false] at hm
    rcases hm with rfl | rfl | rfl | rfl | rfl <;> assumption
end
end Go.Proofs.YtgjkgkgieeoalaaGreat
namespace Go.Proofs.YtgjkgkgieeoalaaGreat
open Go.RowKit
def qT (n : Int) (m : Int × Int × Int) : TermD := ⟨ofD n, ⟨m.1.tmod 3, m.2.1.tmod 3, m.2.2.tmod 3, 0⟩⟩
theorem qT_sm {n : Int} {m : Int × Int × Int} (hn : -128 ≤ n ∧ n ≤ 127) (hm : (0 ≤ m.1 ∧ m.1 ≤ 255) ∧ (0 ≤ m.2.1 ∧ m.2.1 ≤ 255) ∧ (0 ≤ m.2.2 ∧ m.2.2 ≤ 255)) : Ints 128 [qT n m] ∧ Low 3 [qT n m] := by
 have key : ∀ x : Int, 0 ≤ x → 0 ≤ x.tmod 3 ∧ x.tmod 3 ≤ 3 := fun x hx => by
  rw [Int.tmod_eq_emod_of_nonneg hx]; omega
 have k1 := key _ hm.1.1
 have k2 := key _ hm.2.1.1
 have k3 := key _ hm.2.2.1
 refine ⟨(Ints.one (monMay_low ?_)).le (by omega), fun s hs => ?_⟩
 ·simp only []
  omega
 ·simp only [List.mem_cons, List.not_mem_nil, or_false] at hs
  rw [hs]
  simp only [qT]
  omega
end Go.Proofs.YtgjkgkgieeoalaaGreat
namespace Go.Proofs.YtgjkgkgieeoalaaGreat
open Go.RowKit Go.Shelf
def cellsI (ps : List (Int × Int)) : List Value := ps.flatMap fun x => [.int .i64 x.1, .int .i64 x.2]
def allP (k : Int) : List (Int × Int) := (pairsU (max 0 (min k 64)).toNat).map fun x => ((x.1 : Int), (x.2 : Int))
theorem cells_all (l : List (Nat × Nat)) : cellsI (l.map fun x => ((x.1 : Int), (x.2 : Int))) = cellsP l := by
 induction l with
 | nil => rfl
 | cons x r ih => simpa [cellsI, cellsP] using ih
theorem cellsI_at {ps : List (Int × Int)} : ∀ {j : Nat} {x : Int × Int}, ps[j]? = some x → (cellsI ps)[j * 2]? = some (.int .i64 x.1) ∧ (cellsI ps)[j * 2 + 1]? = some (.int .i64 x.2) := by
 induction ps with
 | nil => intro j x h; cases h
 | cons y r ih =>
   intro j x h
   cases j with
   | zero => cases h; exact ⟨rfl, rfl⟩
   | succ j =>
     have := ih (j := j) (x := x) (by simpa using h)
     rw [show (j + 1) * 2 = j * 2 + 1 + 1 by omega]
     exact this
def RPrs (w : World) (A : Option Addr) (ps : List (Int × Int)) : Prop := Rd w w.heap.size 2 A ps.length (cellsI ps)
section
variable {w w' : World} {A : Option Addr} {ps : List (Int × Int)}
theorem RPrs.up (h : RPrs w A ps) (hb : Below w.heap.size w w') : RPrs w' A ps := Rd.up h hb
theorem RPrs.nil (w : World) (A : Option Addr) : RPrs w A [] := Rd.nil
theorem RPrs.get (h : RPrs w A ps) {j : Nat} (hj : j < ps.length) : ∃ (ad : Addr) (x y : Int), A = some ad ∧ ad.block < w.heap.size ∧ Hd (ps[j]? = some (x, y)) ∧
    w.cell? (ad.add (j * 2)) = some (.int .i64 x) ∧ w.cell? ⟨(ad.add (j * 2)).block, (ad.add (j * 2)).off + 1, none⟩ = some (.int .i64 y) := by
 obtain ⟨ad, e, hb, hc⟩ := h.2 (by omega)
 have hx := ai hj
 obtain ⟨h0, h1⟩ := cellsI_at hx
 refine ⟨ad, ps[j].1, ps[j].2, e, hb, ⟨hx⟩, hc _ _ h0, ?_⟩
 rw [← add_pos _ _ 1 (by omega)]
 exact hc _ _ h1
end
theorem pair_All (k : Int) (w : World) :
    Calls Tryz.prog 36 #[.int .i64 k] w fun e W' => ∃ A c, e = .returned (.slice A (allP k).length c) ∧ RPrs W' A (allP k) ∧ Below w.heap.size w W' := by
 have h := callsIn_wide.1 (all_in Fence.wide 3 trivial trivial trivial rfl (ae _) k (max 0 (min k 64)).toNat (by omega) w)
 refine h.mono ?_
 rintro e W' ⟨v, rfl, hr, hb⟩
 have hl : (allP k).length = (pairsU (max 0 (min k 64)).toNat).length := by unfold allP; rw [List.length_map]
 have hc : cellsI (allP k) = cellsP (pairsU (max 0 (min k 64)).toNat) := cells_all _
 rw [← hl, ← hc] at hr
 have hf : ∃ A c, v = .slice A (allP k).length c := by
  rcases hr.2 with ⟨e, e0⟩ | ⟨g, cap, cur, e, -⟩
  ·exact ⟨none, 0, by rw [e, e0]⟩
  ·exact ⟨_, _, e⟩
 obtain ⟨A, c, rfl⟩ := hf
 exact ⟨A, c, rfl, Rd.of_own hr, hb⟩
end Go.Proofs.YtgjkgkgieeoalaaGreat
namespace Go.Proofs.YtgjkgkgieeoalaaGreat
open Go.RowKit
theorem pairsU_mem {N : Nat} : ∀ {x : Nat × Nat}, x ∈ pairsU N → x.1 < x.2 ∧ x.2 < N := by
 induction N with
 | zero => intro x h; cases h
 | succ N ih =>
   intro x h
   have h : x ∈ pairsU N ++ (List.range N).map fun i => (i, N) := h
   rw [List.mem_append] at h
   rcases h with h | h
   ·have := ih h; omega
   ·simp only [List.mem_map, List.mem_range] at h
    obtain ⟨a, ha, rfl⟩ := h
    exact ⟨ha, Nat.lt_succ_self _⟩
theorem pairsU_count (N : Nat) : 2 * (pairsU N).length = N * (N - 1) := by
 induction N with
 | zero => rfl
 | succ N ih =>
   show 2 * (pairsU N ++ (List.range N).map fun i => (i, N)).length = _
   rw [List.length_append, List.length_map, List.length_range, Nat.mul_add, ih, Nat.add_sub_cancel]
   cases N with
   | zero => rfl
   | succ M => simp only [Nat.add_sub_cancel, Nat.add_mul, Nat.mul_add]; omega
theorem allP_at {k : Nat} (hk : k ≤ 64) {i : Nat} {x y : Int} (h : (allP k)[i]? = some (x, y)) : 0 ≤ x ∧ x < y ∧ y < k := by
 unfold allP at h
 rw [List.getElem?_map, show (max 0 (min (k : Int) 64)).toNat = k by omega] at h
 cases h' : (pairsU k)[i]? with
 | none => rw [h'] at h; cases h
 | some a =>
   rw [h'] at h
   have h : (((a.1 : Nat) : Int), ((a.2 : Nat) : Int)) = (x, y) := by injection h
   injection h with h1 h2
   have := pairsU_mem (List.mem_of_getElem? h')
   omega
theorem allP_len {k : Nat} (hk : k ≤ 64) : 2 * (allP k).length = k * (k - 1) := by
 unfold allP
 rw [List.length_map, show (max 0 (min (k : Int) 64)).toNat = k by omega]
 exact pairsU_count k
def cellsM (ls : List MonD) : List Value := ls.flatMap fun m => [.int .i64 m.x0, .int .i64 m.x1, .int .i64 m.x2, .int .i64 m.x3]
def RMons (w : World) (A : Option Addr) (ls : List MonD) : Prop := Rd w w.heap.size 4 A ls.length (cellsM ls)
section
variable {w w' : World} {A : Option Addr} {ls : List MonD}
theorem RMons.nil (w : World) (A : Option Addr) : RMons w A [] := Rd.nil
end
end Go.Proofs.YtgjkgkgieeoalaaGreat
