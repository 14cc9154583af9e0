/- Parts of the proof, joined: what each says stands at its head. -/
import Derived.Test.YtjanagclahkfdaaGreatM26
import Derived.Test.YtjanagclahkfdaaGreatM31
import Derived.Deep.Slices
import Derived.Deep.Strs
import Derived.OpenShut
import Derived.ChangeSlices
import Derived.ChangeSame
set_option linter.unusedVariables false
set_option linter.unusedSimpArgs false
set_option maxHeartbeats 24000000
set_option maxRecDepth 100000
namespace Go.Proofs.YtjanagclahkfdaaGreat
open Go.ChangeShapes Go.WideShapes Go.RowKit
def fieldsAt : Option TypeDesc → List (TypeId × Nat)
 | some (.struct fs) => fs.toList.map fun f => (f.type, f.offset)
 | _ => []
theorem fields_of {o : Option TypeDesc} {x : TypeId × Nat} {l : List (TypeId × Nat)} (h : fieldsAt o = x :: l) : ∃ fs : Array Field, o = some (.struct fs) ∧ fs.toList.map (fun f => (f.type, f.offset)) = x :: l := by
 unfold fieldsAt at h
 split at h
 ·exact ⟨_, rfl, h⟩
 ·cases h
theorem two_of {o : Option TypeDesc} {x y : TypeId × Nat} (h : fieldsAt o = [x, y]) : ∃ f g : Field, o = some (.struct #[f, g]) ∧ f.type = x.1 ∧ f.offset = x.2 ∧ g.type = y.1 ∧ g.offset = y.2 := by
 obtain ⟨⟨l⟩, e, h2⟩ := fields_of h
 match l, h2 with
 | [f, g], h2 =>
   simp only [List.map_cons, List.map_nil, List.cons.injEq, and_true] at h2
   exact ⟨f, g, e, by rw [← h2.1], by rw [← h2.1], by rw [← h2.2], by rw [← h2.2]⟩
theorem three_of {o : Option TypeDesc} {x y z : TypeId × Nat} (h : fieldsAt o = [x, y, z]) : ∃ f g k : Field, o = some (.struct #[f, g, k]) ∧ f.type = x.1 ∧ f.offset = x.2 ∧ g.type = y.1 ∧ g.offset = y.2 ∧ k.type = z.1 ∧ k.offset = z.2 := by
 obtain ⟨⟨l⟩, e, h2⟩ := fields_of h
 match l, h2 with
 | [f, g, k], h2 =>
   simp only [List.map_cons, List.map_nil, List.cons.injEq, and_true] at h2
   exact ⟨f, g, k, e, by rw [← h2.1], by rw [← h2.1], by rw [← h2.2.1], by rw [← h2.2.1], by rw [← h2.2.2], by rw [← h2.2.2]⟩
theorem Tryz.fldRat : fieldsAt (Tryz.prog.underlying 51) = [(4, 0), (49, 1), (49, 2)] := by kernel_rfl
theorem Tryz.fldTerm : fieldsAt (Tryz.prog.underlying 53) = [(51, 0), (45, 3)] := by kernel_rfl
theorem Tryz.undBool : Tryz.prog.underlying 4 = some .bool := by kernel_rfl
theorem Tryz.undU64 : Tryz.prog.underlying 100 = some (.int .u64) := by kernel_rfl
theorem Tryz.cuU64 : Tryz.prog.cellsOf 100 = 1 := by kernel_rfl
theorem Tryz.cuBool : Tryz.prog.cellsOf 4 = 1 := by kernel_rfl
theorem Tryz.cuNat : Tryz.prog.cellsOf 49 = 1 := by kernel_rfl
theorem Tryz.cuRat : Tryz.prog.cellsOf 51 = 3 := by kernel_rfl
theorem Tryz.cuMono : Tryz.prog.cellsOf 45 = 4 := by kernel_rfl
theorem Tryz.cuTerm : Tryz.prog.cellsOf 53 = 7 := by kernel_rfl
section
variable {H : Type} {enc : TypeId × Value → H} {w : World} {base : Nat} {spare : Nat → Bool} {held : Bool} {fuel : Nat} {cs : List Value} {x : DataW H × List MemPlace}
theorem rd_nat (h : DataW.trod enc Tryz.prog w base spare held fuel 49 cs = some x) : ∃ A l c, cs = [.slice A l.length c] ∧ l.length ≤ c ∧ RRow w w.heap.size A l := by
 rcases open_ints Tryz.slNat Tryz.undU64 Tryz.cuU64 h with ⟨e, _⟩ | ⟨a, len, cap, zs, e, _, hl, hm, hz, _, hc, hw⟩
 ·exact ⟨none, [], 0, e, Nat.le_refl _, RRow.nil _ _ _⟩
 ·have hle : len ≤ zs.length := by rw [hz]; split <;> omega
  have hlen : (zs.take len).length = len := by rw [List.length_take]; omega
  refine ⟨some a, zs.take len, cap, by rw [hlen]; exact e, by rw [hlen]; exact hl, RRow.old ?_ ?_ (Nat.le_refl _)⟩
  ·refine ⟨by rw [ints_len, Nat.mul_one], fun hn => ⟨a, rfl, ?_, fun j u hu => ?_⟩⟩
   ·have := World.block_lt_of_cell? w _ (hc 0 (by omega))
    rwa [add_block] at this
   ·have hj : j < len := by
      have : j < (ints .u64 (zs.take len)).length := by
       rcases Nat.lt_or_ge j (ints .u64 (zs.take len)).length with h1 | h1
       ·exact h1
       ·rw [List.getElem?_eq_none h1] at hu; cases hu
      rwa [ints_len, hlen] at this
    rw [ints_get _ _ _ (by rw [hlen]; exact hj)] at hu
    injection hu with hu
    rw [← hu, hc j (by omega)]
    simp [List.getD_eq_getElem?_getD, List.getElem?_take, hj]
  ·intro n hn
   have := bounds_u64 (hw n (List.mem_of_mem_take hn))
   omega
theorem rd_rat (h : DataW.trod enc Tryz.prog w base spare held fuel 51 cs = some x) : ∃ (r : RatD) (A : Option Addr) (c : Nat) (B : Option Addr) (d : Nat),
    cs = [.bool r.neg, .slice A r.num.length c, .slice B r.den.length d] ∧ r.num.length ≤ c ∧ r.den.length ≤ d ∧ RRow w w.heap.size A r.num ∧ RRow w w.heap.size B r.den := by
 obtain ⟨f, g, k, e, t1, o1, t2, o2, t3, o3⟩ := three_of Tryz.fldRat
 obtain ⟨y0, y1, y2, n, _, hl, h0, h1, h2⟩ := Deep.trod_struct3 e h
 rw [Tryz.cuRat] at hl
 rw [t1, o1, Tryz.cuBool] at h0
 rw [t2, o2, Tryz.cuNat] at h1
 rw [t3, o3, Tryz.cuNat] at h2
 match cs, hl with
 | [v0, v1, v2], _ =>
   simp only [List.drop_zero, List.drop_succ_cons, List.take_succ_cons, List.take_zero] at h0 h1 h2
   obtain ⟨b, e0, _⟩ := DataW.trod_bool Tryz.undBool h0
   obtain ⟨A, l, c, e1, l1, r1⟩ := rd_nat h1
   obtain ⟨B, m, d, e2, l2, r2⟩ := rd_nat h2
   simp only [List.cons.injEq, and_true] at e0 e1 e2
   subst e0 e1 e2
   exact ⟨⟨b, l, m⟩, A, c, B, d, rfl, l1, l2, r1, r2⟩
theorem rd_mono (h : DataW.trod enc Tryz.prog w base spare held fuel 45 cs = some x) : ∃ m : MonD, cs = [.int .i64 m.x0, .int .i64 m.x1, .int .i64 m.x2, .int .i64 m.x3] := by
 obtain ⟨xs, n, _, _, hl, hx, hi⟩ := DataW.trod_array Tryz.arM h
 rw [Tryz.cuMono] at hl
 have get : ∀ i, i < 4 → ∃ k : Int, (cs.drop i).take 1 = [.int .i64 k] := fun i h4 => by
  have h1 := hi i h4
  rw [Tryz.cellsI, Nat.mul_one, List.getElem?_eq_getElem (by omega)] at h1
  obtain ⟨k, e, _⟩ := DataW.trod_int Tryz.undI h1
  exact ⟨k, e⟩
 match cs, hl with
 | [v0, v1, v2, v3], _ =>
   obtain ⟨a0, e0⟩ := get 0 (by omega)
   obtain ⟨a1, e1⟩ := get 1 (by omega)
   obtain ⟨a2, e2⟩ := get 2 (by omega)
   obtain ⟨a3, e3⟩ := get 3 (by omega)
   simp only [List.drop_zero, List.drop_succ_cons, List.take_succ_cons, List.take_zero, List.cons.injEq, and_true] at e0 e1 e2 e3
   subst e0 e1 e2 e3
   exact ⟨⟨a0, a1, a2, a3⟩, rfl⟩
theorem rd_term (h : DataW.trod enc Tryz.prog w base spare held fuel 53 cs = some x) : ∃ t : TermD, TC w w.heap.size t cs := by
 obtain ⟨f, g, e, t1, o1, t2, o2⟩ := two_of Tryz.fldTerm
 obtain ⟨y0, y1, n, _, hl, h0, h1⟩ := trod_struct2 e h
 rw [Tryz.cuTerm] at hl
 rw [t1, o1, Tryz.cuRat] at h0
 rw [t2, o2, Tryz.cuMono] at h1
 match cs, hl with
 | [v0, v1, v2, v3, v4, v5, v6], _ =>
   simp only [List.drop_zero, List.drop_succ_cons, List.take_succ_cons, List.take_zero] at h0 h1
   obtain ⟨r, A, c, B, d, e0, l1, l2, r1, r2⟩ := rd_rat h0
   obtain ⟨m, e1⟩ := rd_mono h1
   simp only [List.cons.injEq, and_true] at e0 e1
   obtain ⟨rfl, rfl, rfl⟩ := e0
   obtain ⟨rfl, rfl, rfl, rfl⟩ := e1
   exact ⟨⟨r, m⟩, A, c, B, d, rfl, l1, l2, r1, r2⟩
theorem rows_up {b0 : Nat} {a : Addr} {T : Nat → TermD} {C : Nat → List Value} : ∀ (n : Nat), (∀ i, i < n → TC w b0 (T i) (C i) ∧ ∀ k u, (C i)[k]? = some u → w.cell? (a.add (i * 7 + k)) = some u) →
    TCs w b0 ((List.range n).map T) ((List.range n).flatMap C) ∧ ∀ j u, ((List.range n).flatMap C)[j]? = some u → w.cell? (a.add j) = some u
 | 0, _ => ⟨.nil, fun j u h => by simp at h⟩
 | n + 1, h => by
   obtain ⟨h1, h2⟩ := rows_up n (fun i hi => h i (by omega))
   obtain ⟨h3, h4⟩ := h n (by omega)
   have hlen := h1.len
   rw [List.length_map, List.length_range] at hlen
   rw [List.range_succ, List.map_append, List.flatMap_append]
   refine ⟨h1.app (by simpa using TCs.cons h3 .nil), fun j u hu => ?_⟩
   rcases Nat.lt_or_ge j (n * 7) with hj | hj
   ·rw [List.getElem?_append_left (by omega)] at hu
    exact h2 j u hu
   ·rw [List.getElem?_append_right (by omega), hlen] at hu
    have := h4 (j - n * 7) u (by simpa using hu)
    rwa [show n * 7 + (j - n * 7) = j by omega] at this
theorem rd_terms {t : TypeId} (ht : Tryz.prog.underlying t = some (.slice 53)) (h : DataW.trod enc Tryz.prog w base spare held fuel t cs = some x) :
    ∃ A ts c, cs = [.slice A ts.length c] ∧ ts.length ≤ c ∧ c ≤ maxLen ∧ RPol w w.heap.size A ts := by
 rcases Deep.open_slice ht h with ⟨e, _⟩ | ⟨a, len, cap, m, n, D, Pl, e, _, hl, hm, hmm, _, hx⟩
 ·exact ⟨none, [], 0, e, Nat.le_refl _, by unfold maxLen; omega, RPol.nil _ _ _⟩
 ·have hle : len ≤ m := by rw [hmm]; split <;> omega
  have hel : ∀ i, ∃ p : TermD × List Value, i < len → TC w w.heap.size p.1 p.2 ∧ ∀ k u, p.2[k]? = some u → w.cell? (a.add (i * 7 + k)) = some u := fun i => by
   by_cases hi : i < len
   ·obtain ⟨cs', h1, h2⟩ := hx i (by omega)
    rw [Tryz.cuTerm] at h1
    obtain ⟨s, hs⟩ := rd_term h2
    obtain ⟨_, h3, h4⟩ := World.cells?_some h1
    refine ⟨(s, cs'), fun _ => ⟨hs, fun k u hu => ?_⟩⟩
    have hk : k < 7 := by
     rcases Nat.lt_or_ge k cs'.length with h5 | h5
     ·omega
     ·rw [List.getElem?_eq_none h5] at hu; cases hu
    rw [← add_add, h4 k hk]; exact hu
   ·exact ⟨(⟨zeroD, zeroM⟩, []), fun h => absurd h hi⟩
  obtain ⟨F, hF⟩ := Classical.axiomOfChoice hel
  obtain ⟨h1, h2⟩ := rows_up (w := w) (b0 := w.heap.size) (a := a) (T := fun i => (F i).1) (C := fun i => (F i).2) len (fun i hi => hF i hi)
  have hlen : ((List.range len).map fun i => (F i).1).length = len := by simp
  refine ⟨some a, (List.range len).map (fun i => (F i).1), cap, by rw [hlen]; exact e, by rw [hlen]; exact hl, hm, _, ⟨by rw [h1.len], fun hn => ⟨a, rfl, ?_, h2⟩⟩, h1⟩
  rw [hlen] at hn
  obtain ⟨h3, h4⟩ := hF 0 hn
  obtain ⟨A, c, B, d, e2, _⟩ := h3
  have := World.block_lt_of_cell? w _ (h4 0 _ (by rw [e2]; rfl))
  rwa [add_block] at this
end
theorem Tryz.cuPoly : Tryz.prog.cellsOf 23 = 1 := by kernel_rfl
section
variable {H : Type} {enc : TypeId × Value → H} {w : World} {base : Nat} {spare : Nat → Bool} {held : Bool} {fuel : Nat} {cs : List Value} {x : DataW H × List MemPlace}
theorem rd_polys (h : DataW.trod enc Tryz.prog w base spare held fuel 24 cs = some x) :
    ∃ A l c, cs = [.slice A l.length c] ∧ l.length ≤ c ∧ c ≤ maxLen ∧ RPols w w.heap.size A l := by
 rcases Deep.open_slice Tryz.slPolys h with ⟨e, _⟩ | ⟨a, len, cap, m, n, D, Pl, e, _, hl, hm, hmm, _, hx⟩
 ·exact ⟨none, [], 0, e, Nat.le_refl _, by unfold maxLen; omega, RPols.nil _ _ _⟩
 ·have hle : len ≤ m := by rw [hmm]; split <;> omega
  have hel : ∀ i, ∃ p : List TermD × Value, i < len → w.cell? (a.add i) = some p.2 ∧ ∃ B d, p.2 = .slice B p.1.length d ∧ p.1.length ≤ d ∧ RPol w w.heap.size B p.1 := fun i => by
   by_cases hi : i < len
   ·obtain ⟨cs', h1, h2⟩ := hx i (by omega)
    rw [Tryz.cuPoly] at h1
    obtain ⟨B, ts, d, e2, h5, _, h6⟩ := rd_terms Tryz.slPoly h2
    obtain ⟨_, h3, h4⟩ := World.cells?_some h1
    refine ⟨(ts, .slice B ts.length d), fun _ => ⟨?_, B, d, rfl, h5, h6⟩⟩
    have := h4 0 (by omega)
    rw [add_add, e2] at this
    simpa using this
   ·exact ⟨([], .slice none 0 0), fun h => absurd h hi⟩
  obtain ⟨F, hF⟩ := Classical.axiomOfChoice hel
  have hlen : ((List.range len).map fun i => (F i).1).length = len := by simp
  refine ⟨some a, (List.range len).map (fun i => (F i).1), cap, by rw [hlen]; exact e, by rw [hlen]; exact hl, hm, (List.range len).map (fun i => (F i).2), ⟨by simp, fun hn => ⟨a, rfl, ?_, fun j u hu => ?_⟩⟩, fun j r hj => ?_⟩
  ·rw [hlen] at hn
   have := World.block_lt_of_cell? w _ (hF 0 hn).1
   rwa [add_block] at this
  ·have hj : j < len := by
     rcases Nat.lt_or_ge j len with h5 | h5
     ·exact h5
     ·rw [List.getElem?_eq_none (by simpa using h5)] at hu; cases hu
   rw [List.getElem?_map, List.getElem?_range hj] at hu
   simp only [Option.map_some, Option.some.injEq] at hu
   rw [← hu]
   exact (hF j hj).1
  ·have hj2 : j < len := by
     rcases Nat.lt_or_ge j len with h5 | h5
     ·exact h5
     ·rw [List.getElem?_eq_none (by simpa using h5)] at hj; cases hj
   rw [List.getElem?_map, List.getElem?_range hj2] at hj
   simp only [Option.map_some, Option.some.injEq] at hj
   obtain ⟨_, B, d, e2, h5, h6⟩ := hF j hj2
   subst hj
   refine ⟨B, d, ?_, h5, h6⟩
   rw [List.getElem?_map, List.getElem?_range hj2, ← e2]; rfl
end
end Go.Proofs.YtjanagclahkfdaaGreat
