/- Parts of the proof, joined: what each says stands at its head. -/
import Derived.Test.YtjanagclahkfdaaGreatM40
import Derived.Test.YtjanagclahkfdaaGreatM35
import Derived.Test.YtjanagclahkfdaaGreatM36
set_option linter.unusedVariables false
set_option linter.unusedSimpArgs false
set_option maxHeartbeats 24000000
set_option maxRecDepth 100000
namespace Go.Proofs.YtjanagclahkfdaaGreat
open Go.RowKit
theorem RSm.up {w w' : World} {A B : Option Addr} {c d : Nat} {ns : List Int} {ms : List (Int × Int × Int)} (h : RSm w A c B d ns ms) (hb : Below w.heap.size w w') : RSm w' A c B d ns ms :=
 ⟨h.n.up hb, h.m.up hb, h.nc, h.md, h.nb, h.mb⟩
theorem flat3_get : ∀ {ms : List (Int × Int × Int)} {i : Nat} {m : Int × Int × Int}, ms[i]? = some m →
    (flat3 ms)[i * 3]? = some (.int .u8 m.1) ∧ (flat3 ms)[i * 3 + 1]? = some (.int .u8 m.2.1) ∧ (flat3 ms)[i * 3 + 2]? = some (.int .u8 m.2.2)
 | [], i, m, h => by simp at h
 | x :: ms, 0, m, h => by
   simp only [List.getElem?_cons_zero, Option.some.injEq] at h
   subst h
   exact ⟨rfl, rfl, rfl⟩
 | x :: ms, i + 1, m, h => by
   have := flat3_get (ms := ms) (i := i) (m := m) (by simpa using h)
   have e : flat3 (x :: ms) = .int .u8 x.1 :: .int .u8 x.2.1 :: .int .u8 x.2.2 :: flat3 ms := rfl
   rw [e, show (i + 1) * 3 = i * 3 + 1 + 1 + 1 by omega]
   simpa using this
theorem smL_take {ns : List Int} {ms : List (Int × Int × Int)} {i : Nat} {n : Int} {m : Int × Int × Int} (hn : ns[i]? = some n) (hm : ms[i]? = some m) (hi : i < 10) : (smL ns ms).take i ++ [smT n m] = (smL ns ms).take (i + 1) := by
 have h : (smL ns ms)[i]? = some (smT n m) := by
  unfold smL
  rw [List.getElem?_map, List.getElem?_take, if_pos hi, List.getElem?_zip_eq_some (z := (n, m)) |>.2 ⟨hn, hm⟩]; rfl
 rw [List.take_add_one, h]; rfl
theorem smL_end {ns : List Int} {ms : List (Int × Int × Int)} {i : Nat} (h : ¬ i < ns.length ∨ ¬ i < ms.length ∨ ¬ i < 10) : (smL ns ms).take i = smL ns ms := by
 refine List.take_of_length_le ?_
 unfold smL
 rw [List.length_map, List.length_take, List.length_zip]
 omega
theorem Ints.short {M : Nat} {p : List TermD} (h : Ints M p) (hM : M < 18446744073709551616) (hl : p.length ≤ 1000000) : shortP p :=
 ⟨hl, fun s hs => by
  obtain ⟨n, e⟩ := h.int s hs
  have h1 := Nat.le_trans (mass_mem hs) h.mass
  rw [e] at h1 ⊢
  exact ofD_short n (by have : val (ofD n).num = n.natAbs := val_limbs _; omega)⟩
end Go.Proofs.YtjanagclahkfdaaGreat
namespace Go.Proofs.YtjanagclahkfdaaGreat
open Go.ChangeShapes Go.WideShapes Go.RowKit
theorem Tryz.slI8 : Tryz.prog.underlying 35 = some (.slice 60) := by kernel_rfl
theorem Tryz.slM3 : Tryz.prog.underlying 36 = some (.slice 78) := by kernel_rfl
theorem Tryz.arM3 : Tryz.prog.underlying 78 = some (.array 3 5) := by kernel_rfl
theorem Tryz.undI8 : Tryz.prog.underlying 60 = some (.int .i8) := by kernel_rfl
theorem Tryz.undU8 : Tryz.prog.underlying 5 = some (.int .u8) := by kernel_rfl
theorem Tryz.cuI8 : Tryz.prog.cellsOf 60 = 1 := by kernel_rfl
theorem Tryz.cuU8 : Tryz.prog.cellsOf 5 = 1 := by kernel_rfl
theorem Tryz.cuM3 : Tryz.prog.cellsOf 78 = 3 := by kernel_rfl
theorem Tryz.cuSlI8 : Tryz.prog.cellsOf 35 = 1 := by kernel_rfl
theorem Tryz.cuSlM3 : Tryz.prog.cellsOf 36 = 1 := by kernel_rfl
def trip (m : Int × Int × Int) : List Value := [.int .u8 m.1, .int .u8 m.2.1, .int .u8 m.2.2]
theorem flat3_app (l m : List (Int × Int × Int)) : flat3 (l ++ m) = flat3 l ++ flat3 m := by simp [flat3]
theorem flat3_len (l : List (Int × Int × Int)) : (flat3 l).length = l.length * 3 := by
 induction l with
 | nil => rfl
 | cons x l ih => rw [show flat3 (x :: l) = trip x ++ flat3 l from rfl, List.length_append, ih, List.length_cons]; show 3 + _ = _; omega
section
variable {H : Type} {enc : TypeId × Value → H} {w : World} {base : Nat} {spare : Nat → Bool} {held : Bool} {fuel : Nat} {cs : List Value} {x : DataW H × List MemPlace}
theorem rd_row {t e : TypeId} {k : IntKind} (ht : Tryz.prog.underlying t = some (.slice e)) (he : Tryz.prog.underlying e = some (.int k)) (hc1 : Tryz.prog.cellsOf e = 1)
    (h : DataW.trod enc Tryz.prog w base spare held fuel t cs = some x) : ∃ A l c, cs = [.slice A l.length c] ∧ l.length ≤ c ∧ c ≤ maxLen ∧ Rd w w.heap.size 1 A l.length (ints k l) ∧ ∀ n ∈ l, (Lit.int k n).wf = true := by
 rcases open_ints ht he hc1 h with ⟨e, _⟩ | ⟨a, len, cap, zs, e, _, hl, hm, hz, _, hc, hw⟩
 ·exact ⟨none, [], 0, e, Nat.le_refl _, by unfold maxLen; omega, Rd.nil, fun n hn => by cases hn⟩
 ·have hle : len ≤ zs.length := by rw [hz]; split <;> omega
  have hlen : (zs.take len).length = len := by rw [List.length_take]; omega
  refine ⟨some a, zs.take len, cap, by rw [hlen]; exact e, by rw [hlen]; exact hl, hm, ⟨by rw [ints_len, Nat.mul_one], fun hn => ⟨a, rfl, ?_, fun j u hu => ?_⟩⟩, fun n hn => hw n (List.mem_of_mem_take hn)⟩
  ·have := World.block_lt_of_cell? w _ (hc 0 (by omega))
   rwa [add_block] at this
  ·have hj : j < len := by
     have : j < (ints k (zs.take len)).length := by
      rcases Nat.lt_or_ge j (ints k (zs.take len)).length with h1 | h1
      ·exact h1
      ·rw [List.getElem?_eq_none h1] at hu; cases hu
     rwa [ints_len, hlen] at this
   rw [ints_get _ _ _ (by rw [hlen]; exact hj)] at hu
   injection hu with hu
   rw [← hu, hc j (by omega)]
   simp [List.getD_eq_getElem?_getD, hj]
theorem rd_m3 (h : DataW.trod enc Tryz.prog w base spare held fuel 78 cs = some x) : ∃ m : Int × Int × Int, cs = trip m ∧ (0 ≤ m.1 ∧ m.1 ≤ 255) ∧ (0 ≤ m.2.1 ∧ m.2.1 ≤ 255) ∧ (0 ≤ m.2.2 ∧ m.2.2 ≤ 255) := by
 obtain ⟨xs, n, _, _, hl, hx, hi⟩ := DataW.trod_array Tryz.arM3 h
 rw [Tryz.cuM3] at hl
 have get : ∀ i, i < 3 → ∃ k : Int, (cs.drop i).take 1 = [.int .u8 k] ∧ 0 ≤ k ∧ k ≤ 255 := fun i h4 => by
  have h1 := hi i h4
  rw [Tryz.cuU8, Nat.mul_one, List.getElem?_eq_getElem (by omega)] at h1
  obtain ⟨k, e, _, hw⟩ := DataW.trod_int Tryz.undU8 h1
  exact ⟨k, e, bounds_u8 hw⟩
 match cs, hl with
 | [v0, v1, v2], _ =>
   obtain ⟨a0, e0, b0⟩ := get 0 (by omega)
   obtain ⟨a1, e1, b1⟩ := get 1 (by omega)
   obtain ⟨a2, e2, b2⟩ := get 2 (by omega)
   simp only [List.drop_zero, List.drop_succ_cons, List.take_succ_cons, List.take_zero, List.cons.injEq, and_true] at e0 e1 e2
   subst e0 e1 e2
   exact ⟨(a0, a1, a2), rfl, b0, b1, b2⟩
theorem rows3_up {a : Addr} {T : Nat → Int × Int × Int} : ∀ (n : Nat), (∀ i, i < n → ∀ k u, (trip (T i))[k]? = some u → w.cell? (a.add (i * 3 + k)) = some u) →
    ∀ j u, (flat3 ((List.range n).map T))[j]? = some u → w.cell? (a.add j) = some u
 | 0, _ => fun j u h => by simp [flat3] at h
 | n + 1, h => by
   have h2 := rows3_up n (fun i hi => h i (by omega))
   have h4 := h n (by omega)
   have hlen := flat3_len ((List.range n).map T)
   rw [List.length_map, List.length_range] at hlen
   rw [List.range_succ, List.map_append, flat3_app]
   intro j u hu
   rcases Nat.lt_or_ge j (n * 3) with hj | hj
   ·rw [List.getElem?_append_left (by omega)] at hu
    exact h2 j u hu
   ·rw [List.getElem?_append_right (by omega), hlen] at hu
    have := h4 (j - n * 3) u hu
    rwa [show n * 3 + (j - n * 3) = j by omega] at this
theorem rd_m3s (h : DataW.trod enc Tryz.prog w base spare held fuel 36 cs = some x) :
    ∃ B ms d, cs = [.slice B ms.length d] ∧ ms.length ≤ d ∧ Rd w w.heap.size 3 B ms.length (flat3 ms) ∧ ∀ m ∈ ms, (0 ≤ m.1 ∧ m.1 ≤ 255) ∧ (0 ≤ m.2.1 ∧ m.2.1 ≤ 255) ∧ (0 ≤ m.2.2 ∧ m.2.2 ≤ 255) := by
 rcases Deep.open_slice Tryz.slM3 h with ⟨e, _⟩ | ⟨a, len, cap, m, n, D, Pl, e, _, hl, hm, hmm, _, hx⟩
 ·exact ⟨none, [], 0, e, Nat.le_refl _, ⟨rfl, fun h => by cases h⟩, fun m hm => by cases hm⟩
 ·have hle : len ≤ m := by rw [hmm]; split <;> omega
  have hel : ∀ i, ∃ p : Int × Int × Int, i < len → (∀ k u, (trip p)[k]? = some u → w.cell? (a.add (i * 3 + k)) = some u) ∧ (0 ≤ p.1 ∧ p.1 ≤ 255) ∧ (0 ≤ p.2.1 ∧ p.2.1 ≤ 255) ∧ (0 ≤ p.2.2 ∧ p.2.2 ≤ 255) := fun i => by
   by_cases hi : i < len
   ·obtain ⟨cs', h1, h2⟩ := hx i (by omega)
    rw [Tryz.cuM3] at h1
    obtain ⟨s, rfl, hs⟩ := rd_m3 h2
    obtain ⟨_, h3, h4⟩ := World.cells?_some h1
    refine ⟨s, fun _ => ⟨fun k u hu => ?_, hs⟩⟩
    have hk : k < 3 := by
     rcases Nat.lt_or_ge k (trip s).length with h5 | h5
     ·exact h5
     ·rw [List.getElem?_eq_none h5] at hu; cases hu
    rw [← add_add, h4 k hk]; exact hu
   ·exact ⟨(0, 0, 0), fun h => absurd h hi⟩
  obtain ⟨F, hF⟩ := Classical.axiomOfChoice hel
  have h2 := rows3_up (w := w) (a := a) (T := F) len (fun i hi => (hF i hi).1)
  have hlen : ((List.range len).map F).length = len := by simp
  refine ⟨some a, (List.range len).map F, cap, by rw [hlen]; exact e, by rw [hlen]; exact hl, ⟨flat3_len _, fun hn => ⟨a, rfl, ?_, h2⟩⟩, fun s hs => ?_⟩
  ·rw [hlen] at hn
   have := World.block_lt_of_cell? w _ ((hF 0 hn).1 0 _ rfl)
   rwa [add_block] at this
  ·obtain ⟨i, hi, rfl⟩ := List.mem_map.1 hs
   exact (hF i (List.mem_range.1 hi)).2
end
theorem okWide_array {P : Program} {w : World} {r : Reach} {b0 n : Nat} {t e : TypeId} {v : Value} (ht : P.underlying t = some (.array n e)) (h : Value.okWide P w r b0 t v) : ∃ cs : Array Value, v = .agg cs ∧ cs.size = P.cellsOf t := by
 simp only [Value.okWide, ht] at h
 obtain ⟨cs, h1, h2, _⟩ := h
 exact ⟨cs, h1, h2⟩
def smE (ns : List Int) (ms : List (Int × Int × Int)) : List TermD := ((ns.zip ms).take 5).map fun x => smT x.1 x.2
def madeE (o : Int) (ns : List Int) (ms : List (Int × Int × Int)) : List TermD := (polMake o (smE ns ms)).2
theorem smE_eq (ns : List Int) (ms : List (Int × Int × Int)) : smE ns ms = (smL ns ms).take 5 := by
 unfold smE smL
 rw [← List.map_take, List.take_take]
 rfl
theorem Sm.take {l : List TermD} (h : Sm l) (k : Nat) : Sm (l.take k) := by
 refine ⟨⟨fun t ht => h.ints.int t (List.mem_of_mem_take ht), fun t ht => h.ints.good t (List.mem_of_mem_take ht), ?_⟩, fun t ht => h.low t (List.mem_of_mem_take ht), by rw [List.length_take]; have := h.len; omega⟩
 have h1 := mass_app (l.take k) (l.drop k)
 rw [List.take_append_drop] at h1
 have := h.ints.mass
 omega
theorem smE_sm {w : World} {A B : Option Addr} {c d : Nat} {ns : List Int} {ms : List (Int × Int × Int)} (h : RSm w A c B d ns ms) : Sm (smE ns ms) := by rw [smE_eq]; exact (smL_sm h).take 5
theorem smE_len (ns : List Int) (ms : List (Int × Int × Int)) : (smE ns ms).length ≤ 5 := by rw [smE_eq, List.length_take]; omega
theorem madeE_sm {o : Int} (ho : oOk o) {w : World} {A B : Option Addr} {c d : Nat} {ns : List Int} {ms : List (Int × Int × Int)} (h : RSm w A c B d ns ms) : SmP o (madeE o ns ms) := ((smE_sm h).make ho).1
theorem smE_take {ns : List Int} {ms : List (Int × Int × Int)} {i : Nat} {n : Int} {m : Int × Int × Int} (hn : ns[i]? = some n) (hm : ms[i]? = some m) (hi : i < 5) : (smE ns ms).take i ++ [smT n m] = (smE ns ms).take (i + 1) := by
 have h : (smE ns ms)[i]? = some (smT n m) := by
  unfold smE
  rw [List.getElem?_map, List.getElem?_take, if_pos hi, List.getElem?_zip_eq_some (z := (n, m)) |>.2 ⟨hn, hm⟩]; rfl
 rw [List.take_add_one, h]; rfl
theorem smE_end {ns : List Int} {ms : List (Int × Int × Int)} {i : Nat} (h : ¬ i < ns.length ∨ ¬ i < ms.length ∨ ¬ i < 5) : (smE ns ms).take i = smE ns ms := by
 refine List.take_of_length_le ?_
 unfold smE
 rw [List.length_map, List.length_take, List.length_zip]
 omega
end Go.Proofs.YtjanagclahkfdaaGreat
