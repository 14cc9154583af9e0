/- Parts of the proof, joined: each theorem says what it shows. -/
import Derived.Test.YtgjkgkgieeoalaaGreatE01
import Derived.Test.YtgjkgkgieeoalaaGreatE28
import Derived.Test.YtgjkgkgieeoalaaGreatE18
import Derived.Test.YtgjkgkgieeoalaaGreatE23
set_option linter.unusedVariables false
set_option linter.unusedSimpArgs false
set_option maxHeartbeats 24000000
set_option maxRecDepth 100000
namespace Go.Proofs.YtgjkgkgieeoalaaGreat
open Go.RowKit Go.Shelf
def cellsI (ps : List (Int × Int)) : List Value := ps.flatMap fun x => [.int .i64 x.1, .int .i64 x.2]
def allP (k : Int) : List (Int × Int) := (pairsU (max 0 (min k 64)).toNat).map fun x => ((x.1 : Int), (x.2 : Int))
theorem cells_all (l : List (Nat × Nat)) : cellsI (l.map fun x => ((x.1 : Int), (x.2 : Int))) = cellsP l := by
 induction l with
 | nil => rfl
 | cons x r ih => simpa [cellsI, cellsP] using ih
theorem cellsI_at {ps : List (Int × Int)} : ∀ {j : Nat} {x : Int × Int}, ps[j]? = some x → (cellsI ps)[j * 2]? = some (.int .i64 x.1) ∧ (cellsI ps)[j * 2 + 1]? = some (.int .i64 x.2) := by
 induction ps with
 | nil => intro j x h; cases h
 | cons y r ih =>
   intro j x h
   cases j with
   | zero => cases h; exact ⟨rfl, rfl⟩
   | succ j =>
     have := ih (j := j) (x := x) (by simpa using h)
     rw [show (j + 1) * 2 = j * 2 + 1 + 1 by omega]
     exact this
def RPrs (w : World) (A : Option Addr) (ps : List (Int × Int)) : Prop := Rd w w.heap.size 2 A ps.length (cellsI ps)
section
variable {w w' : World} {A : Option Addr} {ps : List (Int × Int)}
theorem RPrs.up (h : RPrs w A ps) (hb : Below w.heap.size w w') : RPrs w' A ps := Rd.up h hb
theorem RPrs.nil (w : World) (A : Option Addr) : RPrs w A [] := Rd.nil
theorem RPrs.get (h : RPrs w A ps) {j : Nat} (hj : j < ps.length) : ∃ (ad : Addr) (x y : Int), A = some ad ∧ ad.block < w.heap.size ∧ Hd (ps[j]? = some (x, y)) ∧
    w.cell? (ad.add (j * 2)) = some (.int .i64 x) ∧ w.cell? ⟨(ad.add (j * 2)).block, (ad.add (j * 2)).off + 1, none⟩ = some (.int .i64 y) := by
 obtain ⟨ad, e, hb, hc⟩ := h.2 (by omega)
 have hx := ai hj
 obtain ⟨h0, h1⟩ := cellsI_at hx
 refine ⟨ad, ps[j].1, ps[j].2, e, hb, ⟨hx⟩, hc _ _ h0, ?_⟩
 rw [← add_pos _ _ 1 (by omega)]
 exact hc _ _ h1
end
theorem pair_All (k : Int) (w : World) :
    Calls Tryz.prog 36 #[.int .i64 k] w fun e W' => ∃ A c, e = .returned (.slice A (allP k).length c) ∧ RPrs W' A (allP k) ∧ Below w.heap.size w W' := by
 have h := callsIn_wide.1 (all_in Fence.wide 3 trivial trivial trivial rfl (ae _) k (max 0 (min k 64)).toNat (by omega) w)
 refine h.mono ?_
 rintro e W' ⟨v, rfl, hr, hb⟩
 have hl : (allP k).length = (pairsU (max 0 (min k 64)).toNat).length := by unfold allP; rw [List.length_map]
 have hc : cellsI (allP k) = cellsP (pairsU (max 0 (min k 64)).toNat) := cells_all _
 rw [← hl, ← hc] at hr
 have hf : ∃ A c, v = .slice A (allP k).length c := by
  rcases hr.2 with ⟨e, e0⟩ | ⟨g, cap, cur, e, -⟩
  ·exact ⟨none, 0, by rw [e, e0]⟩
  ·exact ⟨_, _, e⟩
 obtain ⟨A, c, rfl⟩ := hf
 exact ⟨A, c, rfl, Rd.of_own hr, hb⟩
end Go.Proofs.YtgjkgkgieeoalaaGreat
namespace Go.Proofs.YtgjkgkgieeoalaaGreat
open Go.RowKit
theorem pairsU_mem {N : Nat} : ∀ {x : Nat × Nat}, x ∈ pairsU N → x.1 < x.2 ∧ x.2 < N := by
 induction N with
 | zero => intro x h; cases h
 | succ N ih =>
   intro x h
   have h : x ∈ pairsU N ++ (List.range N).map fun i => (i, N) := h
   rw [List.mem_append] at h
   rcases h with h | h
   ·have := ih h; omega
   ·simp only [List.mem_map, List.mem_range] at h
    obtain ⟨a, ha, rfl⟩ := h
    exact ⟨ha, Nat.lt_succ_self _⟩
theorem pairsU_count (N : Nat) : 2 * (pairsU N).length = N * (N - 1) := by
 induction N with
 | zero => rfl
 | succ N ih =>
   show 2 * (pairsU N ++ (List.range N).map fun i => (i, N)).length = _
   rw [List.length_append, List.length_map, List.length_range, Nat.mul_add, ih, Nat.add_sub_cancel]
   cases N with
   | zero => rfl
   | succ M => simp only [Nat.add_sub_cancel, Nat.add_mul, Nat.mul_add]; omega
theorem allP_at {k : Nat} (hk : k ≤ 64) {i : Nat} {x y : Int} (h : (allP k)[i]? = some (x, y)) : 0 ≤ x ∧ x < y ∧ y < k := by
 unfold allP at h
 rw [List.getElem?_map, show (max 0 (min (k : Int) 64)).toNat = k by omega] at h
 cases h' : (pairsU k)[i]? with
 | none => rw [h'] at h; cases h
 | some a =>
   rw [h'] at h
   have h : (((a.1 : Nat) : Int), ((a.2 : Nat) : Int)) = (x, y) := by injection h
   injection h with h1 h2
   have := pairsU_mem (List.mem_of_getElem? h')
   omega
theorem allP_len {k : Nat} (hk : k ≤ 64) : 2 * (allP k).length = k * (k - 1) := by
 unfold allP
 rw [List.length_map, show (max 0 (min (k : Int) 64)).toNat = k by omega]
 exact pairsU_count k
end Go.Proofs.YtgjkgkgieeoalaaGreat
