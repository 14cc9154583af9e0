/- Parts of the proof, joined: what each says stands at its head. -/
import Derived.Test.YtjanagclahkfdaaGreatM40
import Derived.Test.YtjanagclahkfdaaGreatM35
import Derived.Test.YtjanagclahkfdaaGreatM36
import Derived.Test.YtjanagclahkfdaaGreatM38
import Derived.Test.YtjanagclahkfdaaGreatM42
set_option linter.unusedVariables false
set_option linter.unusedSimpArgs false
set_option maxHeartbeats 24000000
set_option maxRecDepth 100000
namespace Go.Proofs.YtjanagclahkfdaaGreat
open Go.RowKit
theorem RSm.up {w w' : World} {A B : Option Addr} {c d : Nat} {ns : List Int} {ms : List (Int × Int × Int)} (h : RSm w A c B d ns ms) (hb : Below w.heap.size w w') : RSm w' A c B d ns ms :=
 ⟨h.n.up hb, h.m.up hb, h.nc, h.md, h.nb, h.mb⟩
theorem flat3_get : ∀ {ms : List (Int × Int × Int)} {i : Nat} {m : Int × Int × Int}, ms[i]? = some m →
    (flat3 ms)[i * 3]? = some (.int .u8 m.1) ∧ (flat3 ms)[i * 3 + 1]? = some (.int .u8 m.2.1) ∧ (flat3 ms)[i * 3 + 2]? = some (.int .u8 m.2.2)
 | [], i, m, h => by simp at h
 | x :: ms, 0, m, h => by
   simp only [List.getElem?_cons_zero, Option.some.injEq] at h
   subst h
   exact ⟨rfl, rfl, rfl⟩
 | x :: ms, i + 1, m, h => by
   have := flat3_get (ms := ms) (i := i) (m := m) (by simpa using h)
   have e : flat3 (x :: ms) = .int .u8 x.1 :: .int .u8 x.2.1 :: .int .u8 x.2.2 :: flat3 ms := rfl
   rw [e, show (i + 1) * 3 = i * 3 + 1 + 1 + 1 by omega]
   simpa using this
theorem smL_take {ns : List Int} {ms : List (Int × Int × Int)} {i : Nat} {n : Int} {m : Int × Int × Int} (hn : ns[i]? = some n) (hm : ms[i]? = some m) (hi : i < 10) : (smL ns ms).take i ++ [smT n m] = (smL ns ms).take (i + 1) := by
 have h : (smL ns ms)[i]? = some (smT n m) := by
  unfold smL
  rw [List.getElem?_map, List.getElem?_take, if_pos hi, List.getElem?_zip_eq_some (z := (n, m)) |>.2 ⟨hn, hm⟩]; rfl
 rw [List.take_add_one, h]; rfl
theorem smL_end {ns : List Int} {ms : List (Int × Int × Int)} {i : Nat} (h : ¬ i < ns.length ∨ ¬ i < ms.length ∨ ¬ i < 10) : (smL ns ms).take i = smL ns ms := by
 refine List.take_of_length_le ?_
 unfold smL
 rw [List.length_map, List.length_take, List.length_zip]
 omega
theorem Ints.short {M : Nat} {p : List TermD} (h : Ints M p) (hM : M < 18446744073709551616) (hl : p.length ≤ 1000000) : shortP p :=
 ⟨hl, fun s hs => by
  obtain ⟨n, e⟩ := h.int s hs
  have h1 := Nat.le_trans (mass_mem hs) h.mass
  rw [e] at h1 ⊢
  exact ofD_short n (by have : val (ofD n).num = n.natAbs := val_limbs _; omega)⟩
end Go.Proofs.YtjanagclahkfdaaGreat
namespace Go.Proofs.YtjanagclahkfdaaGreat
open Go.ChangeShapes Go.WideShapes Go.RowKit
theorem Tryz.slI8 : Tryz.prog.underlying 35 = some (.slice 60) := by kernel_rfl
theorem Tryz.slM3 : Tryz.prog.underlying 36 = some (.slice 78) := by kernel_rfl
theorem Tryz.arM3 : Tryz.prog.underlying 78 = some (.array 3 5) := by kernel_rfl
theorem Tryz.undI8 : Tryz.prog.underlying 60 = some (.int .i8) := by kernel_rfl
theorem Tryz.undU8 : Tryz.prog.underlying 5 = some (.int .u8) := by kernel_rfl
theorem Tryz.cuI8 : Tryz.prog.cellsOf 60 = 1 := by kernel_rfl
theorem Tryz.cuU8 : Tryz.prog.cellsOf 5 = 1 := by kernel_rfl
theorem Tryz.cuM3 : Tryz.prog.cellsOf 78 = 3 := by kernel_rfl
theorem Tryz.cuSlI8 : Tryz.prog.cellsOf 35 = 1 := by kernel_rfl
theorem Tryz.cuSlM3 : Tryz.prog.cellsOf 36 = 1 := by kernel_rfl
def trip (m : Int × Int × Int) : List Value := [.int .u8 m.1, .int .u8 m.2.1, .int .u8 m.2.2]
theorem flat3_app (l m : List (Int × Int × Int)) : flat3 (l ++ m) = flat3 l ++ flat3 m := by simp [flat3]
theorem flat3_len (l : List (Int × Int × Int)) : (flat3 l).length = l.length * 3 := by
 induction l with
 | nil => rfl
 | cons x l ih => rw [show flat3 (x :: l) = trip x ++ flat3 l from rfl, List.length_append, ih, List.length_cons]; show 3 + _ = _; omega
section
variable {H : Type} {enc : TypeId × Value → H} {w : World} {base : Nat} {spare : Nat → Bool} {held : Bool} {fuel : Nat} {cs : List Value} {x : DataW H × List MemPlace}
theorem rd_row {t e : TypeId} {k : IntKind} (ht : Tryz.prog.underlying t = some (.slice e)) (he : Tryz.prog.underlying e = some (.int k)) (hc1 : Tryz.prog.cellsOf e = 1)
    (h : DataW.trod enc Tryz.prog w base spare held fuel t cs = some x) : ∃ A l c, cs = [.slice A l.length c] ∧ l.length ≤ c ∧ c ≤ maxLen ∧ Rd w w.heap.size 1 A l.length (ints k l) ∧ ∀ n ∈ l, (Lit.int k n).wf = true := by
 rcases open_ints ht he hc1 h with ⟨e, _⟩ | ⟨a, len, cap, zs, e, _, hl, hm, hz, _, hc, hw⟩
 ·exact ⟨none, [], 0, e, Nat.le_refl _, by unfold maxLen; omega, Rd.nil, fun n hn => by cases hn⟩
 ·have hle : len ≤ zs.length := by rw [hz]; split <;> omega
  have hlen : (zs.take len).length = len := by rw [List.length_take]; omega
  refine ⟨some a, zs.take len, cap, by rw [hlen]; exact e, by rw [hlen]; exact hl, hm, ⟨by rw [ints_len, Nat.mul_one], fun hn => ⟨a, rfl, ?_, fun j u hu => ?_⟩⟩, fun n hn => hw n (List.mem_of_mem_take hn)⟩
  ·have := World.block_lt_of_cell? w _ (hc 0 (by omega))
   rwa [add_block] at this
  ·have hj : j < len := by
     have : j < (ints k (zs.take len)).length := by
      rcases Nat.lt_or_ge j (ints k (zs.take len)).length with h1 | h1
      ·exact h1
      ·rw [List.getElem?_eq_none h1] at hu; cases hu
     rwa [ints_len, hlen] at this
   rw [ints_get _ _ _ (by rw [hlen]; exact hj)] at hu
   injection hu with hu
   rw [← hu, hc j (by omega)]
   simp [List.getD_eq_getElem?_getD, hj]
theorem rd_m3 (h : DataW.trod enc Tryz.prog w base spare held fuel 78 cs = some x) : ∃ m : Int × Int × Int, cs = trip m ∧ (0 ≤ m.1 ∧ m.1 ≤ 255) ∧ (0 ≤ m.2.1 ∧ m.2.1 ≤ 255) ∧ (0 ≤ m.2.2 ∧ m.2.2 ≤ 255) := by
 obtain ⟨xs, n, _, _, hl, hx, hi⟩ := DataW.trod_array Tryz.arM3 h
 rw [Tryz.cuM3] at hl
 have get : ∀ i, i < 3 → ∃ k : Int, (cs.drop i).take 1 = [.int .u8 k] ∧ 0 ≤ k ∧ k ≤ 255 := fun i h4 => by
  have h1 := hi i h4
  rw [Tryz.cuU8, Nat.mul_one, List.getElem?_eq_getElem (by omega)] at h1
  obtain ⟨k, e, _, hw⟩ := DataW.trod_int Tryz.undU8 h1
  exact ⟨k, e, bounds_u8 hw⟩
 match cs, hl with
 | [v0, v1, v2], _ =>
   obtain ⟨a0, e0, b0⟩ := get 0 (by omega)
   obtain ⟨a1, e1, b1⟩ := get 1 (by omega)
   obtain ⟨a2, e2, b2⟩ := get 2 (by omega)
   simp only [List.drop_zero, List.drop_succ_cons, List.take_succ_cons, List.take_zero, List.cons.injEq, and_true] at e0 e1 e2
   subst e0 e1 e2
   exact ⟨(a0, a1, a2), rfl, b0, b1, b2⟩
theorem rows3_up {a : Addr} {T : Nat → Int × Int × Int} : ∀ (n : Nat), (∀ i, i < n → ∀ k u, (trip (T i))[k]? = some u → w.cell? (a.add (i * 3 + k)) = some u) →
    ∀ j u, (flat3 ((List.range n).map T))[j]? = some u → w.cell? (a.add j) = some u
 | 0, _ => fun j u h => by simp [flat3] at h
 | n + 1, h => by
   have h2 := rows3_up n (fun i hi => h i (by omega))
   have h4 := h n (by omega)
   have hlen := flat3_len ((List.range n).map T)
   rw [List.length_map, List.length_range] at hlen
   rw [List.range_succ, List.map_append, flat3_app]
   intro j u hu
   rcases Nat.lt_or_ge j (n * 3) with hj | hj
   ·rw [List.getElem?_append_left (by omega)] at hu
    exact h2 j u hu
   ·rw [List.getElem?_append_right (by omega), hlen] at hu
    have := h4 (j - n * 3) u hu
    rwa [show n * 3 + (j - n * 3) = j by omega] at this
theorem rd_m3s (h : DataW.trod enc Tryz.prog w base spare held fuel 36 cs = some x) :
    ∃ B ms d, cs = [.slice B ms.length d] ∧ ms.length ≤ d ∧ Rd w w.heap.size 3 B ms.length (flat3 ms) ∧ ∀ m ∈ ms, (0 ≤ m.1 ∧ m.1 ≤ 255) ∧ (0 ≤ m.2.1 ∧ m.2.1 ≤ 255) ∧ (0 ≤ m.2.2 ∧ m.2.2 ≤ 255) := by
 rcases Deep.open_slice Tryz.slM3 h with ⟨e, _⟩ | ⟨a, len, cap, m, n, D, Pl, e, _, hl, hm, hmm, _, hx⟩
 ·exact ⟨none, [], 0, e, Nat.le_refl _, ⟨rfl, fun h => by cases h⟩, fun m hm => by cases hm⟩
 ·have hle : len ≤ m := by rw [hmm]; split <;> omega
  have hel : ∀ i, ∃ p : Int × Int × Int, i < len → (∀ k u, (trip p)[k]? = some u → w.cell? (a.add (i * 3 + k)) = some u) ∧ (0 ≤ p.1 ∧ p.1 ≤ 255) ∧ (0 ≤ p.2.1 ∧ p.2.1 ≤ 255) ∧ (0 ≤ p.2.2 ∧ p.2.2 ≤ 255) := fun i => by
   by_cases hi : i < len
   ·obtain ⟨cs', h1, h2⟩ := hx i (by omega)
    rw [Tryz.cuM3] at h1
    obtain ⟨s, rfl, hs⟩ := rd_m3 h2
    obtain ⟨_, h3, h4⟩ := World.cells?_some h1
    refine ⟨s, fun _ => ⟨fun k u hu => ?_, hs⟩⟩
    have hk : k < 3 := by
     rcases Nat.lt_or_ge k (trip s).length with h5 | h5
     ·exact h5
     ·rw [List.getElem?_eq_none h5] at hu; cases hu
    rw [← add_add, h4 k hk]; exact hu
   ·exact ⟨(0, 0, 0), fun h => absurd h hi⟩
  obtain ⟨F, hF⟩ := Classical.axiomOfChoice hel
  have h2 := rows3_up (w := w) (a := a) (T := F) len (fun i hi => (hF i hi).1)
  have hlen : ((List.range len).map F).length = len := by simp
  refine ⟨some a, (List.range len).map F, cap, by rw [hlen]; exact e, by rw [hlen]; exact hl, ⟨flat3_len _, fun hn => ⟨a, rfl, ?_, h2⟩⟩, fun s hs => ?_⟩
  ·rw [hlen] at hn
   have := World.block_lt_of_cell? w _ ((hF 0 hn).1 0 _ rfl)
   rwa [add_block] at this
  ·obtain ⟨i, hi, rfl⟩ := List.mem_map.1 hs
   exact (hF i (List.mem_range.1 hi)).2
end
theorem okWide_array {P : Program} {w : World} {r : Reach} {b0 n : Nat} {t e : TypeId} {v : Value} (ht : P.underlying t = some (.array n e)) (h : Value.okWide P w r b0 t v) : ∃ cs : Array Value, v = .agg cs ∧ cs.size = P.cellsOf t := by
 simp only [Value.okWide, ht] at h
 obtain ⟨cs, h1, h2, _⟩ := h
 exact ⟨cs, h1, h2⟩
def smE (ns : List Int) (ms : List (Int × Int × Int)) : List TermD := ((ns.zip ms).take 5).map fun x => smT x.1 x.2
def madeE (o : Int) (ns : List Int) (ms : List (Int × Int × Int)) : List TermD := (polMake o (smE ns ms)).2
theorem smE_eq (ns : List Int) (ms : List (Int × Int × Int)) : smE ns ms = (smL ns ms).take 5 := by
 unfold smE smL
 rw [← List.map_take, List.take_take]
 rfl
theorem Sm.take {l : List TermD} (h : Sm l) (k : Nat) : Sm (l.take k) := by
 refine ⟨⟨fun t ht => h.ints.int t (List.mem_of_mem_take ht), fun t ht => h.ints.good t (List.mem_of_mem_take ht), ?_⟩, fun t ht => h.low t (List.mem_of_mem_take ht), by rw [List.length_take]; have := h.len; omega⟩
 have h1 := mass_app (l.take k) (l.drop k)
 rw [List.take_append_drop] at h1
 have := h.ints.mass
 omega
theorem smE_sm {w : World} {A B : Option Addr} {c d : Nat} {ns : List Int} {ms : List (Int × Int × Int)} (h : RSm w A c B d ns ms) : Sm (smE ns ms) := by rw [smE_eq]; exact (smL_sm h).take 5
theorem smE_len (ns : List Int) (ms : List (Int × Int × Int)) : (smE ns ms).length ≤ 5 := by rw [smE_eq, List.length_take]; omega
theorem madeE_sm {o : Int} (ho : oOk o) {w : World} {A B : Option Addr} {c d : Nat} {ns : List Int} {ms : List (Int × Int × Int)} (h : RSm w A c B d ns ms) : SmP o (madeE o ns ms) := ((smE_sm h).make ho).1
theorem smE_take {ns : List Int} {ms : List (Int × Int × Int)} {i : Nat} {n : Int} {m : Int × Int × Int} (hn : ns[i]? = some n) (hm : ms[i]? = some m) (hi : i < 5) : (smE ns ms).take i ++ [smT n m] = (smE ns ms).take (i + 1) := by
 have h : (smE ns ms)[i]? = some (smT n m) := by
  unfold smE
  rw [List.getElem?_map, List.getElem?_take, if_pos hi, List.getElem?_zip_eq_some (z := (n, m)) |>.2 ⟨hn, hm⟩]; rfl
 rw [List.take_add_one, h]; rfl
theorem smE_end {ns : List Int} {ms : List (Int × Int × Int)} {i : Nat} (h : ¬ i < ns.length ∨ ¬ i < ms.length ∨ ¬ i < 5) : (smE ns ms).take i = smE ns ms := by
 refine List.take_of_length_le ?_
 unfold smE
 rw [List.length_map, List.length_take, List.length_zip]
 omega
theorem Tryz.fldSmall_12 : fieldsAt (Tryz.prog.underlying 38) = [(35, 0), (36, 1)] := by kernel_rfl
theorem Tryz.cuSmall_12 : Tryz.prog.cellsOf 38 = 2 := by kernel_rfl
theorem Tryz.cuSlI8_12 : Tryz.prog.cellsOf 35 = 1 := by kernel_rfl
theorem Tryz.cuSlM3_12 : Tryz.prog.cellsOf 36 = 1 := by kernel_rfl
theorem Tryz.arS2_12 : Tryz.prog.underlying 57 = some (.array 2 38) := by kernel_rfl
theorem Tryz.arS3_12 : Tryz.prog.underlying 39 = some (.array 3 38) := by kernel_rfl
theorem Tryz.cuS2_12 : Tryz.prog.cellsOf 57 = 4 := by kernel_rfl
theorem Tryz.cuS3_12 : Tryz.prog.cellsOf 39 = 6 := by kernel_rfl
section
variable {H : Type} {enc : TypeId × Value → H} {w : World} {base : Nat} {spare : Nat → Bool} {held : Bool} {fuel : Nat} {cs : List Value} {x : DataW H × List MemPlace}
theorem rd_small_12 (h : DataW.trod enc Tryz.prog w base spare held fuel 38 cs = some x) : ∃ A ns c B ms d, cs = [.slice A ns.length c, .slice B ms.length d] ∧ RSm w A c B d ns ms := by
 obtain ⟨f, g, e, t1, o1, t2, o2⟩ := two_of Tryz.fldSmall_12
 obtain ⟨y0, y1, n, _, hl, h0, h1⟩ := trod_struct2 e h
 rw [Tryz.cuSmall_12] at hl
 rw [t1, o1, Tryz.cuSlI8_12] at h0
 rw [t2, o2, Tryz.cuSlM3_12] at h1
 match cs, hl with
 | [v0, v1], _ =>
   simp only [List.drop_zero, List.drop_succ_cons, List.take_succ_cons, List.take_zero] at h0 h1
   obtain ⟨A, ns, c, e0, l1, _, r1, b1⟩ := rd_row Tryz.slI8 Tryz.undI8 Tryz.cuI8 h0
   obtain ⟨B, ms, d, e1, l2, r2, b2⟩ := rd_m3s h1
   simp only [List.cons.injEq, and_true] at e0 e1
   subst e0 e1
   exact ⟨A, ns, c, B, ms, d, rfl, r1, r2, l1, l2, fun n hn => bounds_i8 (b1 n hn), b2⟩
theorem rd_small2_12 (h : DataW.trod enc Tryz.prog w base spare held fuel 57 cs = some x) : ∃ A ns c B ms d A' ns' c' B' ms' d', cs = [.slice A ns.length c, .slice B ms.length d, .slice A' ns'.length c', .slice B' ms'.length d'] ∧ RSm w A c B d ns ms ∧ RSm w A' c' B' d' ns' ms' := by
 obtain ⟨xs, n, _, _, hl, hx, hi⟩ := DataW.trod_array Tryz.arS2_12 h
 rw [Tryz.cuS2_12] at hl
 have get : ∀ i, i < 2 → ∃ A ns c B ms d, (cs.drop (i * 2)).take 2 = [.slice A ns.length c, .slice B ms.length d] ∧ RSm w A c B d ns ms := fun i h4 => by
  have h1 := hi i h4
  rw [Tryz.cuSmall_12, List.getElem?_eq_getElem (by omega)] at h1
  exact rd_small_12 h1
 match cs, hl, get with
 | [v0, v1, v2, v3], _, get =>
   obtain ⟨A, ns, c, B, ms, d, e0, r0⟩ := get 0 (by omega)
   obtain ⟨A', ns', c', B', ms', d', e1, r1⟩ := get 1 (by omega)
   simp only [Nat.zero_mul, Nat.one_mul, List.drop_zero, List.drop_succ_cons, List.take_succ_cons, List.take_zero, List.cons.injEq, and_true] at e0 e1
   obtain ⟨rfl, rfl⟩ := e0
   obtain ⟨rfl, rfl⟩ := e1
   exact ⟨A, ns, c, B, ms, d, A', ns', c', B', ms', d', rfl, r0, r1⟩
theorem rd_small3_12 (h : DataW.trod enc Tryz.prog w base spare held fuel 39 cs = some x) : ∃ A ns c B ms d A' ns' c' B' ms' d' A'' ns'' c'' B'' ms'' d'', cs = [.slice A ns.length c, .slice B ms.length d, .slice A' ns'.length c', .slice B' ms'.length d', .slice A'' ns''.length c'', .slice B'' ms''.length d''] ∧ RSm w A c B d ns ms ∧ RSm w A' c' B' d' ns' ms' ∧ RSm w A'' c'' B'' d'' ns'' ms'' := by
 obtain ⟨xs, n, _, _, hl, hx, hi⟩ := DataW.trod_array Tryz.arS3_12 h
 rw [Tryz.cuS3_12] at hl
 have get : ∀ i, i < 3 → ∃ A ns c B ms d, (cs.drop (i * 2)).take 2 = [.slice A ns.length c, .slice B ms.length d] ∧ RSm w A c B d ns ms := fun i h4 => by
  have h1 := hi i h4
  rw [Tryz.cuSmall_12, List.getElem?_eq_getElem (by omega)] at h1
  exact rd_small_12 h1
 match cs, hl, get with
 | [v0, v1, v2, v3, v4, v5], _, get =>
   obtain ⟨A, ns, c, B, ms, d, e0, r0⟩ := get 0 (by omega)
   obtain ⟨A', ns', c', B', ms', d', e1, r1⟩ := get 1 (by omega)
   obtain ⟨A'', ns'', c'', B'', ms'', d'', e2, r2⟩ := get 2 (by omega)
   simp only [Nat.zero_mul, Nat.one_mul, Nat.reduceMul, List.drop_zero, List.drop_succ_cons, List.take_succ_cons, List.take_zero, List.cons.injEq, and_true] at e0 e1 e2
   obtain ⟨rfl, rfl⟩ := e0
   obtain ⟨rfl, rfl⟩ := e1
   obtain ⟨rfl, rfl⟩ := e2
   exact ⟨A, ns, c, B, ms, d, A', ns', c', B', ms', d', A'', ns'', c'', B'', ms'', d'', rfl, r0, r1, r2⟩
end
end Go.Proofs.YtjanagclahkfdaaGreat
namespace Go.Proofs.YtjanagclahkfdaaGreat
open Go.RowKit
theorem law12_made (b0 : Nat) (order : Int) (A B : Option Addr) (c d : Nat) (ns : List Int) (ms : List (Int × Int × Int)) (w : World) (hb0 : b0 ≤ w.heap.size) (h : RSm w A c B d ns ms) :
    Calls Tryz.prog 21 #[.int .i64 order, .agg #[.slice A ns.length c, .slice B ms.length d]] w fun e w' => ∃ A' c', e = .returned (.slice A' (madeE order ns ms).length c') ∧
     (madeE order ns ms).length ≤ c' ∧ RPol w' b0 A' (madeE order ns ms) ∧ Below w.heap.size w w' := by
 obtain ⟨D, hD⟩ : ∃ D, madeE order ns ms = D := ⟨_, rfl⟩
 rw [hD]
 have HD := Hd.mk hD
 clear hD
 have HR := Hd.mk h
 have HB0 := Hd.mk hb0
 clear h hb0
 go_enter Tryz.func21, Tryz.ntmps21
 go_upto_region 2 with (fail)
 refine wp_gen (fun W => Below w.heap.size w W ∧ Bk W w.heap.size 38 #[.slice A ns.length c, .slice B ms.length d] ∧ OwnT W b0 (w.heap.size + 1) (.slice (some ⟨w.heap.size + 1, 0, none⟩) 0 0) []) ?_ ?_
 ·refine ⟨((Below.refl _ _).alloc (Nat.le_refl _) _).alloc (by simp) _, (Bk.new_ _ _ _).al _, ?_⟩
  have := ownT_lit (w.alloc (Obj.cells #[.slice A ns.length c, .slice B ms.length d] 38)) b0 (w.heap.size + 1) (by simp)
  simpa using this
 intro W0 hW
 have HK := Hd.mk (And.intro hW.out.1 hW.out.2.1)
 have HO := Hd.mk hW.out.2.2
 clear hW
 go_wp2_with fail
 go_loopw [5, 6] (fun v5 v6 wr => ∃ (i : Nat) (acc : List TermD), v6 = .int .i64 i ∧ i ≤ 5 ∧ acc.length = i ∧ Hd (acc = (smE ns ms).take i) ∧ Hd (OwnT wr b0 (w.heap.size + 1) v5 acc) ∧ Hd (Below w.heap.size w wr ∧ Bk wr w.heap.size 38 #[.slice A ns.length c, .slice B ms.length d])) (fun _ v _ => 5 - (intOf v).toNat)
 case atStart => exact ⟨0, [], rfl, by omega, rfl, ⟨rfl⟩, HO, HK⟩
 case round =>
  clear HO HK
  obtain ⟨i, acc, rfl, hi, hfl, HFA, HO, HK⟩ := hrel
  obtain ⟨Av, cv, rfl, hcv, _, hrv⟩ := HO.out.reads
  have HRV := Hd.mk hrv
  have HLN := Hd.mk hfl
  obtain ⟨p0, p1⟩ := HK.out.2.two'
  clear hrv hfl
  by_cases h1 : i < ns.length
  ·have i1 : (i : Int) < ns.length := by omega
   by_cases h2 : i < ms.length
   ·have i2 : (i : Int) < ms.length := by omega
    by_cases h3 : i < 5
    ·have i3 : (i : Int) < 5 := by omega
     obtain ⟨n, hn⟩ : ∃ n, ns[i]? = some n := ⟨_, List.getElem?_eq_getElem h1⟩
     obtain ⟨m, hm⟩ : ∃ m, ms[i]? = some m := ⟨_, List.getElem?_eq_getElem h2⟩
     obtain ⟨ad, eA, hab, hca⟩ := (HR.out.n.below HK.out.1).2 (by omega)
     obtain ⟨bd, eB, hbb, hcb⟩ := (HR.out.m.below HK.out.1).2 (by omega)
     have q0 := hca i (.int .i8 n) (by rw [ints_get _ _ _ h1, List.getD_eq_getElem?_getD, hn]; rfl)
     obtain ⟨f0, f1, f2⟩ := flat3_get hm
     have q1 := hcb _ _ f0
     have q2 := hcb _ _ f1
     have q3 := hcb _ _ f2
     rw [add_pos _ _ 1 (by omega)] at q2
     rw [add_pos _ _ 2 (by omega)] at q3
     subst eA eB
     have HN := Hd.mk (And.intro hn hm)
     have HFL : Hd (acc ++ [smT n m] = (smE ns ms).take (i + 1)) := ⟨by rw [HFA.out]; exact smE_take hn hm h3⟩
     have nb := HR.out.nb n (List.mem_of_getElem? hn)
     have mb := HR.out.mb m (List.mem_of_getElem? hm)
     have v0 : IntKind.i64.wrap n = n := by rw [IntKind.wrap_i64]; omega
     have v1 : IntKind.i64.wrap m.1 = m.1 := by rw [IntKind.wrap_i64]; omega
     have v2 : IntKind.i64.wrap m.2.1 = m.2.1 := by rw [IntKind.wrap_i64]; omega
     have v3 : IntKind.i64.wrap m.2.2 = m.2.2 := by rw [IntKind.wrap_i64]; omega
     have CO : Hd (∀ W, Hd (Below wr.heap.size wr W) → Calls Tryz.prog 27 #[.int .i64 (IntKind.i64.wrap n)] W fun e w' => ∃ x, e = .returned x ∧ RRat w' b0 x (ofD n) ∧ Below W.heap.size W w') := ⟨by
      rw [v0]
      exact fun W hB => rrat_Of b0 n W (Nat.le_trans HB0.out (Nat.le_trans HK.out.1.size hB.out.size)) (by omega) (by omega)⟩
     have HFL' : Hd (acc ++ [⟨ofD n, ⟨(IntKind.i64.wrap m.1).tmod 4, (IntKind.i64.wrap m.2.1).tmod 4, (IntKind.i64.wrap m.2.2).tmod 4, 0⟩⟩] = (smE ns ms).take (i + 1)) := ⟨by rw [v1, v2, v3]; exact HFL.out⟩
     generalize ofD n = X at CO HFL'
     clear v0 v1 v2 v3 nb mb
     clear hn hm f0 f1 f2 hca hcb
     go_wp2_with fail
     have b1 : (ad.add i).block < w.heap.size + 1 := by rw [add_block]; omega
     have b2 : (bd.add (i * 3)).block < w.heap.size + 1 := by rw [add_block]; omega
     have SO := Hd.mk (fun W (hB : Below (w.heap.size + 1) wr W) => And.intro (Hd.mk hB) (And.intro ((hB.cell (p := ⟨w.heap.size, 0, none⟩) (Nat.lt_succ_self _)).trans p0) (And.intro ((hB.cell (p := ⟨w.heap.size, 1, none⟩) (Nat.lt_succ_self _)).trans p1) (And.intro ((hB.cell b1).trans q0) (And.intro ((hB.cell b2).trans q1) (And.intro ((hB.cell (p := ⟨(bd.add (i * 3)).block, (bd.add (i * 3)).off + 1, none⟩) b2).trans q2) ((hB.cell (p := ⟨(bd.add (i * 3)).block, (bd.add (i * 3)).off + 2, none⟩) b2).trans q3)))))))
     have HZ : Hd (w.heap.size + 1 ≤ wr.heap.size) := ⟨HK.out.2.lt⟩
     clear b1 b2
     go_region_held3 (fun w' => Hd (Below (w.heap.size + 1) wr w') ∧ w'.cell? ⟨w.heap.size, 0, none⟩ = some (.slice (some ad) ns.length c) ∧ w'.cell? ⟨w.heap.size, 1, none⟩ = some (.slice (some bd) ms.length d) ∧ w'.cell? (ad.add i) = some (.int .i8 n) ∧ w'.cell? (bd.add (i * 3)) = some (.int .u8 m.1) ∧ w'.cell? ⟨(bd.add (i * 3)).block, (bd.add (i * 3)).off + 1, none⟩ = some (.int .u8 m.2.1) ∧ w'.cell? ⟨(bd.add (i * 3)).block, (bd.add (i * 3)).off + 2, none⟩ = some (.int .u8 m.2.2))
      (first
       | with_reducible exact SO.out _ (Below.refl _ _)
       | with_reducible exact SO.out _ (Below.refl _ _).drew
       | with_reducible exact SO.out _ HB6.out
       | with_reducible exact SO.out _ (HB6.out.alloc HB6z.out _)
       | with_reducible exact SO.out _ AP.below
       | fail)
      (first
       | (go_at_call 27; with_reducible refine (CO.out wr.drew ⟨(Below.refl _ _).drew⟩).mono ?_; rintro e w5 ⟨x, rfl, hx, hb⟩
          have hB5 : Below wr.heap.size wr w5 := (Below.refl wr.heap.size wr).drew.trans hb
          have HB5 := Hd.mk hB5
          have hx2 := hx
          obtain ⟨TA, tc, TB, td, rfl, _, _, _, _⟩ := hx2
          have T1 := rpol_one (t := ⟨X, ⟨(IntKind.i64.wrap m.1).tmod 4, (IntKind.i64.wrap m.2.1).tmod 4, (IntKind.i64.wrap m.2.2).tmod 4, 0⟩⟩) (rterm_of hx ⟨(IntKind.i64.wrap m.1).tmod 4, (IntKind.i64.wrap m.2.1).tmod 4, (IntKind.i64.wrap m.2.2).tmod 4, 0⟩) 53
          dsimp only at T1
          obtain ⟨tn, htn⟩ : ∃ tn : TermD, tn = ⟨X, ⟨(IntKind.i64.wrap m.1).tmod 4, (IntKind.i64.wrap m.2.1).tmod 4, (IntKind.i64.wrap m.2.2).tmod 4, 0⟩⟩ := ⟨_, rfl⟩
          rw [← htn] at T1
          have HT1 := Hd.mk T1
          have HFL2 : Hd (acc ++ [tn] = (smE ns ms).take (i + 1)) := ⟨by rw [htn]; exact HFL'.out⟩
          have XL : Hd (acc.length + [tn].length ≤ 1000000) := ⟨by have := HLN.out; simp; omega⟩
          have HB6 := Hd.mk (hB5.mono HZ.out)
          have HB6z : Hd (w.heap.size + 1 ≤ w5.heap.size) := ⟨Nat.le_trans HZ.out hB5.size⟩
          clear T1 htn)
       | (refine step_append_T (w0 := wr) (us := [tn]) (B := w.heap.size + 1) rfl _ _ 22 rfl Tryz.slTerms rfl rfl rfl (HO.out.up (hB5.alloc hB5.size _)) HT1.out (Nat.le_succ_of_le HB0.out) XL.out (HB6.out.alloc HB6z.out _) (Nat.le_refl _) (Nat.le_trans HZ.out (hB5.alloc hB5.size _).size) ?_; intro v' w8 AP))
     all_goals
      have HAP := Hd.mk AP
      have HK8 := Hd.mk (And.intro (HK.out.1.trans (AP.below.mono (Nat.le_succ _))) (AP.bk (HK.out.2.up (hB5.alloc hB5.size _)) (Nat.lt_succ_self _)))
      have hl2 : (acc ++ [tn]).length = i + 1 := by rw [List.length_append, HLN.out]; rfl
      clear AP
      go_wp2_with fail
      go_roundw
      case measure => first | (simp [intOf]; done) | (simp [intOf]; omega)
      case rel => exact ⟨i + 1, _, by go_num, by omega, hl2, HFL2, ⟨HAP.out.own⟩, HK8⟩
    ·have HE : Hd (acc = smE ns ms) := ⟨HFA.out.trans (smE_end (.inr (.inr h3)))⟩
     have i3 : ¬ (i : Int) < 5 := by omega
     have HM : Hd ((polMake order acc).2 = D) := ⟨by rw [HE.out]; exact HD.out⟩
     have CM := Hd.mk (rpol_Make b0 order Av cv acc wr (Nat.le_trans HB0.out HK.out.1.size) HRV.out hcv (by have := HLN.out; omega) (by rw [HE.out]; exact (smE_sm HR.out).ints.short (by decide) (by have := (smE_sm HR.out).len; omega)))
     rw [HM.out] at CM
     go_wp2_with fail
     refine CM.out.mono ?_
     rintro e w6 ⟨A6, c6, rfl, hc6, hr6, hb6⟩
     have HB6 := Hd.mk (goes HK.out.1 hb6)
     have HR6 := Hd.mk hr6
     clear hb6 hr6
     go_wp2_with fail
     go_ret
     exact ⟨A6, c6, rfl, hc6, HR6.out, HB6.out⟩
   ·have HE : Hd (acc = smE ns ms) := ⟨HFA.out.trans (smE_end (.inr (.inl h2)))⟩
    have i2 : ¬ (i : Int) < ms.length := by omega
    have HM : Hd ((polMake order acc).2 = D) := ⟨by rw [HE.out]; exact HD.out⟩
    have CM := Hd.mk (rpol_Make b0 order Av cv acc wr (Nat.le_trans HB0.out HK.out.1.size) HRV.out hcv (by have := HLN.out; omega) (by rw [HE.out]; exact (smE_sm HR.out).ints.short (by decide) (by have := (smE_sm HR.out).len; omega)))
    rw [HM.out] at CM
    go_wp2_with fail
    refine CM.out.mono ?_
    rintro e w6 ⟨A6, c6, rfl, hc6, hr6, hb6⟩
    have HB6 := Hd.mk (goes HK.out.1 hb6)
    have HR6 := Hd.mk hr6
    clear hb6 hr6
    go_wp2_with fail
    go_ret
    exact ⟨A6, c6, rfl, hc6, HR6.out, HB6.out⟩
  ·have HE : Hd (acc = smE ns ms) := ⟨HFA.out.trans (smE_end (.inl h1))⟩
   have i1 : ¬ (i : Int) < ns.length := by omega
   have HM : Hd ((polMake order acc).2 = D) := ⟨by rw [HE.out]; exact HD.out⟩
   have CM := Hd.mk (rpol_Make b0 order Av cv acc wr (Nat.le_trans HB0.out HK.out.1.size) HRV.out hcv (by have := HLN.out; omega) (by rw [HE.out]; exact (smE_sm HR.out).ints.short (by decide) (by have := (smE_sm HR.out).len; omega)))
   rw [HM.out] at CM
   go_wp2_with fail
   refine CM.out.mono ?_
   rintro e w6 ⟨A6, c6, rfl, hc6, hr6, hb6⟩
   have HB6 := Hd.mk (goes HK.out.1 hb6)
   have HR6 := Hd.mk hr6
   clear hb6 hr6
   go_wp2_with fail
   go_ret
   exact ⟨A6, c6, rfl, hc6, HR6.out, HB6.out⟩
theorem smP_short {o : Int} {p : List TermD} (h : SmP o p) : shortP p := h.pol.ints.short (by decide) (by have := h.len; omega)
theorem oOk_mod3 {a : Int} (h : 0 ≤ a) : oOk (a % 3) := ⟨by omega, by omega⟩
theorem made12_call {o : Int} (ho : oOk o) {w : World} {A B : Option Addr} {c d : Nat} {ns : List Int} {ms : List (Int × Int × Int)} (h : RSm w A c B d ns ms) :
    ∃ P, SmP o P ∧ ∀ W, Below w.heap.size w W → Calls Tryz.prog 21 #[.int .i64 o, .agg #[.slice A ns.length c, .slice B ms.length d]] W fun e w' => ∃ A' c', e = .returned (.slice A' P.length c') ∧
     P.length ≤ c' ∧ RPol w' w.heap.size A' P ∧ Below W.heap.size W w' :=
 ⟨_, madeE_sm ho h, fun W hB => law12_made w.heap.size o A B c d ns ms W hB.size (h.up hB)⟩
theorem rest_call {b0 : Nat} {o E : Int} {p R : List TermD} {l qs : List (List TermD)} (hs : shortP p) (hsl : shortPs l) (he : splitD o p l = (E, qs, R)) : ∀ (W : World) (A L : Option Addr) (c cl : Nat), b0 ≤ W.heap.size → RPol W b0 A p → p.length ≤ c → RPols W b0 L l → l.length ≤ cl →
    Calls Tryz.prog 18 #[.int .i64 o, .slice A p.length c, .slice L l.length cl] W fun e w' => ∃ A' c', e = .returned (.tuple #[.slice A' R.length c', .int .i64 E]) ∧ R.length ≤ c' ∧ RPol w' b0 A' R ∧ Below W.heap.size W w' := fun W A L c cl hb hp hc hl hcl => by
 have := div_Rest b0 o A L c cl p l W hb hp hc hs hl hcl hsl
 rwa [he] at this
theorem split_call {b0 : Nat} {o E : Int} {p R : List TermD} {l qs : List (List TermD)} (hs : shortP p) (hsl : shortPs l) (he : splitD o p l = (E, qs, R)) : ∀ (W : World) (A L : Option Addr) (c cl : Nat), b0 ≤ W.heap.size → RPol W b0 A p → p.length ≤ c → RPols W b0 L l → l.length ≤ cl →
    Calls Tryz.prog 16 #[.int .i64 o, .slice A p.length c, .slice L l.length cl] W fun e w' => ∃ Q qc A' c', e = .returned (.tuple #[.slice Q qs.length qc, .slice A' R.length c', .int .i64 E]) ∧ qs.length ≤ qc ∧ R.length ≤ c' ∧ RPols w' b0 Q qs ∧ RPol w' b0 A' R ∧ Below W.heap.size W w' := fun W A L c cl hb hp hc hl hcl => by
 have := div_Split b0 o A L c cl p l W hb hp hc hs hl hcl hsl
 rw [he] at this
 exact this
theorem shortPs_of {l : List (List TermD)} (h : l.length ≤ 10000) (hs : ∀ p ∈ l, shortP p) : shortPs l := ⟨h, hs⟩
end Go.Proofs.YtjanagclahkfdaaGreat
