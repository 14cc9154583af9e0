/- Parts of the proof, joined: each theorem says what it shows. -/
import Derived.Test.YtgjkgkgieeoalaaGreatE01
import Derived.Test.YtgjkgkgieeoalaaGreatE24
import Derived.Test.YtgjkgkgieeoalaaGreatE18
import Derived.Test.YtgjkgkgieeoalaaGreatE23
import Derived.Test.YtgjkgkgieeoalaaGreatE20
import Derived.Test.YtgjkgkgieeoalaaGreatE25
import Derived.Test.YtgjkgkgieeoalaaGreatE12
set_option linter.unusedVariables false
set_option linter.unusedSimpArgs false
set_option maxHeartbeats 24000000
set_option maxRecDepth 100000
namespace Go.Proofs.YtgjkgkgieeoalaaGreat
theorem putD_size (o : Int) (al : List TermD) (t : TermD) : (putD o al t).2.length ≤ al.length + 1 := by
 unfold putD
 split
 ·split
  ·simp
  ·simp [setM]
 ·rw [(insD_perm o t al).length_eq]; simp
theorem putAll_size (o : Int) : ∀ (ts al : List TermD), (putAll o al ts).2.length ≤ al.length + ts.length
 | [], al => by simp [putAll]
 | t :: ts, al => by
   unfold putAll
   split
   ·simp
   ·have h1 := putAll_size o ts (putD o al t).2
    have h2 := putD_size o al t
    simp only [List.length_cons]
    omega
theorem polSum_len (o : Int) (ts : List TermD) : (polSum o ts).length ≤ ts.length := by
 unfold polSum
 have h1 := putAll_size o ts []
 have h2 := List.length_filter_le nz (putAll o [] ts).2
 simp only [List.length_nil] at h1
 omega
structure Sm (ts : List TermD) : Prop where
 ints : Ints 1280 ts
 low : Low 3 ts
 len : ts.length ≤ 10
structure SmP (o : Int) (p : List TermD) : Prop where
 pol : Pol o 1280 p
 low : Low 3 p
 len : p.length ≤ 10
theorem Sm.make {o : Int} (ho : oOk o) {ts : List TermD} (h : Sm ts) : SmP o (polMake o ts).2 ∧ (polMake o ts).1 = 0 := by
 have hs := sum_ok ho h.ints (by decide)
 have hl := polSum_len o ts
 have h10 := h.len
 have e : polMake o ts = (0, polSum o ts) := by rw [hs.make, if_neg (by omega)]
 obtain ⟨h1, _⟩ := hs.pol (by rw [e])
 rw [e] at h1 ⊢
 exact ⟨⟨h1, h.low.sum hs, by show (polSum o ts).length ≤ 10; omega⟩, rfl⟩
section
variable {o : Int} {p q r : List TermD}
theorem addM_zero (m : MonD) : addM m zeroM = m := by unfold addM zeroM; simp
theorem monMay_zero : monMay zeroM = true := by decide
end
end Go.Proofs.YtgjkgkgieeoalaaGreat
namespace Go.Proofs.YtgjkgkgieeoalaaGreat
open Go.RowKit
def flat3 (ms : List (Int × Int × Int)) : List Value := ms.flatMap fun m => [.int .u8 m.1, .int .u8 m.2.1, .int .u8 m.2.2]
structure RSm (w : World) (A : Option Addr) (c : Nat) (B : Option Addr) (d : Nat) (ns : List Int) (ms : List (Int × Int × Int)) : Prop where
 n : Rd w w.heap.size 1 A ns.length (ints .i8 ns)
 m : Rd w w.heap.size 3 B ms.length (flat3 ms)
 nc : ns.length ≤ c
 md : ms.length ≤ d
 nb : ∀ x ∈ ns, -128 ≤ x ∧ x ≤ 127
 mb : ∀ x ∈ ms, (0 ≤ x.1 ∧ x.1 ≤ 255) ∧ (0 ≤ x.2.1 ∧ x.2.1 ≤ 255) ∧ (0 ≤ x.2.2 ∧ x.2.2 ≤ 255)
theorem RSm.up {w w' : World} {A B : Option Addr} {c d : Nat} {ns : List Int} {ms : List (Int × Int × Int)} (h : RSm w A c B d ns ms) (hb : Below w.heap.size w w') : RSm w' A c B d ns ms :=
 ⟨h.n.up hb, h.m.up hb, h.nc, h.md, h.nb, h.mb⟩
theorem flat3_get : ∀ {ms : List (Int × Int × Int)} {i : Nat} {m : Int × Int × Int}, ms[i]? = some m →
    (flat3 ms)[i * 3]? = some (.int .u8 m.1) ∧ (flat3 ms)[i * 3 + 1]? = some (.int .u8 m.2.1) ∧ (flat3 ms)[i * 3 + 2]? = some (.int .u8 m.2.2)
 | [], i, m, h => by simp at h
 | x :: ms, 0, m, h => by
   simp only [List.getElem?_cons_zero, Option.some.injEq] at h
   subst h
   exact ⟨rfl, rfl, rfl⟩
 | x :: ms, i + 1, m, h => by
   have := flat3_get (ms := ms) (i := i) (m := m) (by simpa using h)
   have e : flat3 (x :: ms) = .int .u8 x.1 :: .int .u8 x.2.1 :: .int .u8 x.2.2 :: flat3 ms := rfl
   rw [e, show (i + 1) * 3 = i * 3 + 1 + 1 + 1 by omega]
   simpa using this
theorem Ints.short {M : Nat} {p : List TermD} (h : Ints M p) (hM : M < 18446744073709551616) (hl : p.length ≤ 1000000) : shortP p :=
 ⟨hl, fun s hs => by
  obtain ⟨n, e⟩ := h.int s hs
  have h1 := ah (mass_mem hs) h.mass
  rw [e] at h1 ⊢
  exact ofD_short n (by have : val (ofD n).num = n.natAbs := val_limbs _; omega)⟩
end Go.Proofs.YtgjkgkgieeoalaaGreat
namespace Go.Proofs.YtgjkgkgieeoalaaGreat
open Go.ChangeShapes Go.WideShapes Go.RowKit
theorem Tryz.slI8 : Tryz.prog.underlying 56 = some (.slice 142) := by kernel_rfl
theorem Tryz.slM3 : Tryz.prog.underlying 57 = some (.slice 76) := by kernel_rfl
theorem Tryz.arM3 : Tryz.prog.underlying 76 = some (.array 3 5) := by kernel_rfl
theorem Tryz.undI8 : Tryz.prog.underlying 142 = some (.int .i8) := by kernel_rfl
theorem Tryz.undU8 : Tryz.prog.underlying 5 = some (.int .u8) := by kernel_rfl
theorem Tryz.cuI8 : Tryz.prog.cellsOf 142 = 1 := by kernel_rfl
theorem Tryz.cuU8 : Tryz.prog.cellsOf 5 = 1 := by kernel_rfl
theorem Tryz.cuM3 : Tryz.prog.cellsOf 76 = 3 := by kernel_rfl
def trip (m : Int × Int × Int) : List Value := [.int .u8 m.1, .int .u8 m.2.1, .int .u8 m.2.2]
theorem flat3_app (l m : List (Int × Int × Int)) : flat3 (l ++ m) = flat3 l ++ flat3 m := by simp [flat3]
theorem flat3_len (l : List (Int × Int × Int)) : (flat3 l).length = l.length * 3 := by
 induction l with
 | nil => rfl
 | cons x l ih => rw [show flat3 (x :: l) = trip x ++ flat3 l from rfl, List.length_append, ih, List.length_cons]; show 3 + _ = _; omega
section
variable {H : Type} {enc : TypeId × Value → H} {w : World} {base : Nat} {spare : Nat → Bool} {held : Bool} {fuel : Nat} {cs : List Value} {x : DataW H × List MemPlace}
theorem rd_row {t e : TypeId} {k : IntKind} (ht : Tryz.prog.underlying t = some (.slice e)) (he : Tryz.prog.underlying e = some (.int k)) (hc1 : Tryz.prog.cellsOf e = 1)
    (h : DataW.trod enc Tryz.prog w base spare held fuel t cs = some x) : ∃ A l c, cs = [.slice A l.length c] ∧ l.length ≤ c ∧ c ≤ maxLen ∧ Rd w w.heap.size 1 A l.length (ints k l) ∧ ∀ n ∈ l, (Lit.int k n).wf = true := by
 rcases open_ints ht he hc1 h with ⟨e, _⟩ | ⟨a, len, cap, zs, e, _, hl, hm, hz, _, hc, hw⟩
 ·exact ⟨none, [], 0, e, ae _, by unfold maxLen; omega, Rd.nil, fun n hn => by cases hn⟩
 ·have hle : len ≤ zs.length := by rw [hz]; split <;> omega
  have hlen : (zs.take len).length = len := by rw [List.length_take]; omega
  refine ⟨some a, zs.take len, cap, by rw [hlen]; exact e, by rw [hlen]; exact hl, hm, ⟨by rw [ints_len, Nat.mul_one], fun hn => ⟨a, rfl, ?_, fun j u hu => ?_⟩⟩, fun n hn => hw n (List.mem_of_mem_take hn)⟩
  ·have := World.block_lt_of_cell? w _ (hc 0 (by omega))
   rwa [add_block] at this
  ·have hj : j < len := by
     have : j < (ints k (zs.take len)).length := by
      rcases Nat.lt_or_ge j (ints k (zs.take len)).length with h1 | h1
      ·exact h1
      ·rw [List.getElem?_eq_none h1] at hu; cases hu
     rwa [ints_len, hlen] at this
   rw [ints_get _ _ _ (by rw [hlen]; exact hj)] at hu
   injection hu with hu
   rw [← hu, hc j (by omega)]
   simp [List.getD_eq_getElem?_getD, hj]
theorem rd_m3 (h : DataW.trod enc Tryz.prog w base spare held fuel 76 cs = some x) : ∃ m : Int × Int × Int, cs = trip m ∧ (0 ≤ m.1 ∧ m.1 ≤ 255) ∧ (0 ≤ m.2.1 ∧ m.2.1 ≤ 255) ∧ (0 ≤ m.2.2 ∧ m.2.2 ≤ 255) := by
 obtain ⟨xs, n, _, _, hl, hx, hi⟩ := DataW.trod_array Tryz.arM3 h
 rw [Tryz.cuM3] at hl
 have get : ∀ i, i < 3 → ∃ k : Int, (cs.drop i).take 1 = [.int .u8 k] ∧ 0 ≤ k ∧ k ≤ 255 := fun i h4 => by
  have h1 := hi i h4
  rw [Tryz.cuU8, Nat.mul_one, ai (by omega)] at h1
  obtain ⟨k, e, _, hw⟩ := DataW.trod_int Tryz.undU8 h1
  exact ⟨k, e, bounds_u8 hw⟩
 match cs, hl with
 | [v0, v1, v2], _ =>
   obtain ⟨a0, e0, b0⟩ := get 0 (by omega)
   obtain ⟨a1, e1, b1⟩ := get 1 (by omega)
   obtain ⟨a2, e2, b2⟩ := get 2 (by omega)
   simp only [List.drop_zero, List.drop_succ_cons, List.take_succ_cons, List.take_zero, List.cons.injEq, and_true] at e0 e1 e2
   subst e0 e1 e2
   exact ⟨(a0, a1, a2), rfl, b0, b1, b2⟩
theorem rows3_up {a : Addr} {T : Nat → Int × Int × Int} : ∀ (n : Nat), (∀ i, i < n → ∀ k u, (trip (T i))[k]? = some u → w.cell? (a.add (i * 3 + k)) = some u) →
    ∀ j u, (flat3 ((List.range n).map T))[j]? = some u → w.cell? (a.add j) = some u
 | 0, _ => fun j u h => by simp [flat3] at h
 | n + 1, h => by
   have h2 := rows3_up n (fun i hi => h i (by omega))
   have h4 := h n (by omega)
   have hlen := flat3_len ((List.range n).map T)
   rw [List.length_map, List.length_range] at hlen
   rw [List.range_succ, List.map_append, flat3_app]
   intro j u hu
   rcases Nat.lt_or_ge j (n * 3) with hj | hj
   ·rw [List.getElem?_append_left (by omega)] at hu
    exact h2 j u hu
   ·rw [List.getElem?_append_right (by omega), hlen] at hu
    have := h4 (j - n * 3) u hu
    rwa [show n * 3 + (j - n * 3) = j by omega] at this
theorem rd_m3s (h : DataW.trod enc Tryz.prog w base spare held fuel 57 cs = some x) :
    ∃ B ms d, cs = [.slice B ms.length d] ∧ ms.length ≤ d ∧ Rd w w.heap.size 3 B ms.length (flat3 ms) ∧ ∀ m ∈ ms, (0 ≤ m.1 ∧ m.1 ≤ 255) ∧ (0 ≤ m.2.1 ∧ m.2.1 ≤ 255) ∧ (0 ≤ m.2.2 ∧ m.2.2 ≤ 255) := by
 rcases Deep.open_slice Tryz.slM3 h with ⟨e, _⟩ | ⟨a, len, cap, m, n, D, Pl, e, _, hl, hm, hmm, _, hx⟩
 ·exact ⟨none, [], 0, e, ae _, ⟨rfl, fun h => by cases h⟩, fun m hm => by cases hm⟩
 ·have hle : len ≤ m := by rw [hmm]; split <;> omega
  have hel : ∀ i, ∃ p : Int × Int × Int, i < len → (∀ k u, (trip p)[k]? = some u → w.cell? (a.add (i * 3 + k)) = some u) ∧ (0 ≤ p.1 ∧ p.1 ≤ 255) ∧ (0 ≤ p.2.1 ∧ p.2.1 ≤ 255) ∧ (0 ≤ p.2.2 ∧ p.2.2 ≤ 255) := fun i => by
   by_cases hi : i < len
   ·obtain ⟨cs', h1, h2⟩ := hx i (by omega)
    rw [Tryz.cuM3] at h1
    obtain ⟨s, rfl, hs⟩ := rd_m3 h2
    obtain ⟨_, h3, h4⟩ := World.cells?_some h1
    refine ⟨s, fun _ => ⟨fun k u hu => ?_, hs⟩⟩
    have hk : k < 3 := by
     rcases Nat.lt_or_ge k (trip s).length with h5 | h5
     ·exact h5
     ·rw [List.getElem?_eq_none h5] at hu; cases hu
    rw [← add_add, h4 k hk]; exact hu
   ·exact ⟨(0, 0, 0), fun h => absurd h hi⟩
  obtain ⟨F, hF⟩ := Classical.axiomOfChoice hel
  have h2 := rows3_up (w := w) (a := a) (T := F) len (fun i hi => (hF i hi).1)
  have hlen : ((List.range len).map F).length = len := by simp
  refine ⟨some a, (List.range len).map F, cap, by rw [hlen]; exact e, by rw [hlen]; exact hl, ⟨flat3_len _, fun hn => ⟨a, rfl, ?_, h2⟩⟩, fun s hs => ?_⟩
  ·rw [hlen] at hn
   have := World.block_lt_of_cell? w _ ((hF 0 hn).1 0 _ rfl)
   rwa [add_block] at this
  ·obtain ⟨i, hi, rfl⟩ := List.mem_map.1 hs
   exact (hF i (List.mem_range.1 hi)).2
end
theorem okWide_array {P : Program} {w : World} {r : Reach} {b0 n : Nat} {t e : TypeId} {v : Value} (ht : P.underlying t = some (.array n e)) (h : Value.okWide P w r b0 t v) : ∃ cs : Array Value, v = .agg cs ∧ cs.size = P.cellsOf t := by
 simp only [Value.okWide, ht] at h
 obtain ⟨cs, h1, h2, _⟩ := h
 exact ⟨cs, h1, h2⟩
theorem Sm.take {l : List TermD} (h : Sm l) (k : Nat) : Sm (l.take k) := by
 refine ⟨⟨fun t ht => h.ints.int t (List.mem_of_mem_take ht), fun t ht => h.ints.good t (List.mem_of_mem_take ht), ?_⟩, fun t ht => h.low t (List.mem_of_mem_take ht), by rw [List.length_take]; have := h.len; omega⟩
 have h1 := mass_app (l.take k) (l.drop k)
 rw [List.take_append_drop] at h1
 have := h.ints.mass
 omega
theorem Tryz.fldSmall_14 : fieldsAt (Tryz.prog.underlying 83) = [(56, 0), (57, 1)] := by kernel_rfl
theorem Tryz.cuSmall_14 : Tryz.prog.cellsOf 83 = 2 := by kernel_rfl
theorem Tryz.cuSlI8_14 : Tryz.prog.cellsOf 56 = 1 := by kernel_rfl
theorem Tryz.cuSlM3_14 : Tryz.prog.cellsOf 57 = 1 := by kernel_rfl
theorem Tryz.arS2_14 : Tryz.prog.underlying 91 = some (.array 2 83) := by kernel_rfl
theorem Tryz.cuS2_14 : Tryz.prog.cellsOf 91 = 4 := by kernel_rfl
section
variable {H : Type} {enc : TypeId × Value → H} {w : World} {base : Nat} {spare : Nat → Bool} {held : Bool} {fuel : Nat} {cs : List Value} {x : DataW H × List MemPlace}
theorem rd_small_14 (h : DataW.trod enc Tryz.prog w base spare held fuel 83 cs = some x) : ∃ A ns c B ms d, cs = [.slice A ns.length c, .slice B ms.length d] ∧ RSm w A c B d ns ms := by
 obtain ⟨f, g, e, t1, o1, t2, o2⟩ := two_of Tryz.fldSmall_14
 obtain ⟨y0, y1, n, _, hl, h0, h1⟩ := trod_struct2 e h
 rw [Tryz.cuSmall_14] at hl
 rw [t1, o1, Tryz.cuSlI8_14] at h0
 rw [t2, o2, Tryz.cuSlM3_14] at h1
 match cs, hl with
 | [v0, v1], _ =>
   simp only [List.drop_zero, List.drop_succ_cons, List.take_succ_cons, List.take_zero] at h0 h1
   obtain ⟨A, ns, c, e0, l1, _, r1, b1⟩ := rd_row Tryz.slI8 Tryz.undI8 Tryz.cuI8 h0
   obtain ⟨B, ms, d, e1, l2, r2, b2⟩ := rd_m3s h1
   simp only [List.cons.injEq, and_true] at e0 e1
   subst e0 e1
   exact ⟨A, ns, c, B, ms, d, rfl, r1, r2, l1, l2, fun n hn => bounds_i8 (b1 n hn), b2⟩
theorem rd_small2_14 (h : DataW.trod enc Tryz.prog w base spare held fuel 91 cs = some x) : ∃ A ns c B ms d A' ns' c' B' ms' d', cs = [.slice A ns.length c, .slice B ms.length d, .slice A' ns'.length c', .slice B' ms'.length d'] ∧ RSm w A c B d ns ms ∧ RSm w A' c' B' d' ns' ms' := by
 obtain ⟨xs, n, _, _, hl, hx, hi⟩ := DataW.trod_array Tryz.arS2_14 h
 rw [Tryz.cuS2_14] at hl
 have get : ∀ i, i < 2 → ∃ A ns c B ms d, (cs.drop (i * 2)).take 2 = [.slice A ns.length c, .slice B ms.length d] ∧ RSm w A c B d ns ms := fun i h4 => by
  have h1 := hi i h4
  rw [Tryz.cuSmall_14, ai (by omega)] at h1
  exact rd_small_14 h1
 match cs, hl, get with
 | [v0, v1, v2, v3], _, get =>
   obtain ⟨A, ns, c, B, ms, d, e0, r0⟩ := get 0 (by omega)
   obtain ⟨A', ns', c', B', ms', d', e1, r1⟩ := get 1 (by omega)
   simp only [Nat.zero_mul, Nat.one_mul, List.drop_zero, List.drop_succ_cons, List.take_succ_cons, List.take_zero, List.cons.injEq, and_true] at e0 e1
   obtain ⟨rfl, rfl⟩ := e0
   obtain ⟨rfl, rfl⟩ := e1
   exact ⟨A, ns, c, B, ms, d, A', ns', c', B', ms', d', rfl, r0, r1⟩
end
end Go.Proofs.YtgjkgkgieeoalaaGreat
namespace Go.Proofs.YtgjkgkgieeoalaaGreat
theorem lin_van {g : MonD → Rat} {p : List TermD} (h : ∀ s ∈ p, g s.m = 0) : lin g p = 0 := by
 induction p with
 | nil => rfl
 | cons t p ih =>
   simp only [lin]
   rw [h t (by simp), ih fun s hs => h s (by simp [hs])]
   grind
theorem mulM_lt {o : Int} (ho : oOk o) {a b c : MonD} (ha : monMay a = true) (hb : monMay b = true) (hc : monMay c = true) (hac : monMay (addM a c) = true) (hbc : monMay (addM b c) = true) (h : 0 < monCmp o a b) : monCmp o (addM b c) (addM a c) < 0 := by
 rw [monCmp_mul ho hb ha hc hbc hac, monCmp_anti ho ha hb]
 omega
theorem mulD_small {r s : RatD} (hr : GoodR r) (hs : GoodR s) (h1 : val r.num * val s.num < 18446744073709551616 ^ 8) (h2 : val r.den * val s.den < 18446744073709551616 ^ 8) :
    (mulD r s).1 = 0 ∧ GoodR (mulD r s).2 ∧ qv (mulD r s).2 = qv r * qv s ∧ val (mulD r s).2.num ≤ val r.num * val s.num ∧ val (mulD r s).2.den ≤ val r.den * val s.den := by
 have l1 := limbs_len.2 h1
 have l2 := limbs_len.2 h2
 have hb : isBig [limbs (val r.num * val s.num), limbs (val r.den * val s.den)] = false := isBig_no fun x hx => by
  simp only [List.mem_cons, List.not_mem_nil, or_false] at hx
  rcases hx with rfl | rfl
  ·exact l1
  ·exact l2
 have hd : val r.den * val s.den ≠ 0 := Nat.mul_ne_zero hr.den hs.den
 have e : mulD r s = makeD (r.neg != s.neg) (limbs (val r.num * val s.num)) (limbs (val r.den * val s.den)) := by
  unfold mulD
  rw [hr.may, hs.may, if_neg (by simp), hb, if_neg (by simp)]
 rcases mulD_q hr hs with h | ⟨h, hf⟩
 ·rw [e, makeD_q _ _ _ hd l1 l2] at h
  cases h
 ·rw [h]
  refine ⟨rfl, ofQ_good hf, qv_ofQ _, ?_⟩
  rw [e, makeD_q _ _ _ hd l1 l2, ofQ_mk _ _ _ hd] at h
  have h' := congrArg Prod.snd h
  simp only at h'
  rw [← h']
  simp only [val_limbs]
  exact ⟨Nat.div_le_self _ _, Nat.div_le_self _ _⟩
theorem timesL_map {t : TermD} : ∀ {p : List TermD}, (∀ s ∈ p, (mulD s.c t.c).1 = 0 ∧ monMul s.m t.m = (0, addM s.m t.m)) → timesL t p = (0, p.map fun s => mulT s t)
 | [], _ => rfl
 | s :: r, h => by
   have ih := timesL_map (t := t) (p := r) fun x hx => h x (by simp [hx])
   obtain ⟨h1, h2⟩ := h s (by simp)
   unfold timesL
   rw [ih, h1, h2]
   simp [mulT]
def Lit (r : RatD) : Prop := GoodR r ∧ val r.num < 18446744073709551616 ∧ val r.den < 18446744073709551616
theorem mulD_lit {r s : RatD} (hr : Lit r) (hs : Lit s) : (mulD r s).1 = 0 ∧ GoodR (mulD r s).2 ∧ qv (mulD r s).2 = qv r * qv s ∧ val (mulD r s).2.num ≤ val r.num * val s.num ∧ val (mulD r s).2.den ≤ val r.den * val s.den := by
 obtain ⟨g, a, b⟩ := hr
 obtain ⟨g', a', b'⟩ := hs
 have key : ∀ x y : Nat, x < 18446744073709551616 → y < 18446744073709551616 → x * y < 18446744073709551616 ^ 8 := fun x y hx hy =>
  Nat.lt_of_lt_of_le (Nat.mul_lt_mul_of_le_of_lt (Nat.le_of_lt hx) hy (by decide)) (by decide)
 exact mulD_small g g' (key _ _ a a') (key _ _ b b')
theorem mulT_zm (s : TermD) (k : RatD) : (mulT s ⟨k, zeroM⟩).m = s.m := by show addM s.m zeroM = s.m; exact addM_zero _
structure CP (o : Int) (p : List TermD) : Prop where
 canon : Canon o p
 len : p.length ≤ 60
theorem CP.may {o : Int} {p : List TermD} (h : CP o p) : polMay o p = true := canon_may h.canon h.len
theorem CP.ord {o : Int} {p : List TermD} (h : CP o p) : oOk o := h.canon.sta.ord
theorem CP.nil {o : Int} (h : oOk o) : CP o [] := ⟨canon_nil h, by simp⟩
theorem Canon.tl {o : Int} {t : TermD} {p : List TermD} (h : Canon o (t :: p)) : Canon o p :=
 ⟨⟨h.sta.ord, fun s hs => h.sta.good s (by simp [hs]), (List.pairwise_cons.1 h.sta.fall).2⟩, h.good.tl, fun s hs => h.nz s (by simp [hs])⟩
theorem CP.tl {o : Int} {t : TermD} {p : List TermD} (h : CP o (t :: p)) : CP o p := ⟨h.canon.tl, by have := h.len; simp only [List.length_cons] at this; omega⟩
theorem CP.below {o : Int} {t : TermD} {p : List TermD} (h : CP o (t :: p)) : ∀ s ∈ p, 0 < monCmp o t.m s.m := (List.pairwise_cons.1 h.canon.sta.fall).1
theorem CP.ne {o : Int} {p : List TermD} (h : CP o p) {t : TermD} (ht : t ∈ p) : qv t.c ≠ 0 := (h.canon.good t ht).ne (h.canon.nz t ht)
theorem SmP.cp {o : Int} {p : List TermD} (h : SmP o p) : CP o p := ⟨h.pol.canon, h.pol.len⟩
theorem anyOdd_good {ts : List TermD} (h : GoodP ts) : anyOdd ts = false := by
 unfold anyOdd
 rw [List.any_eq_false]
 intro t ht
 rw [(h t ht).right]
 simp
theorem flat_good {o : Int} : ∀ {ps : List (List TermD)}, (∀ p ∈ ps, CP o p) → GoodP ps.flatten
 | [], _ => .nil
 | p :: ps, h => by rw [List.flatten_cons]; exact (h p (by simp)).canon.good.app (flat_good fun q hq => h q (by simp [hq]))
theorem polAdd_make {o : Int} {ps : List (List TermD)} (h : ∀ p ∈ ps, CP o p) : polAdd o ps = polMake o ps.flatten := polAdd_int fun p hp => ⟨(h p hp).canon, (h p hp).len⟩
theorem polAdd_good {o : Int} {ps : List (List TermD)} (h : ∀ p ∈ ps, CP o p) (h0 : (polAdd o ps).1 = 0) : CP o (polAdd o ps).2 ∧ ∀ f, lin f (polAdd o ps).2 = lin f ps.flatten := by
 rw [polAdd_make h] at h0 ⊢
 obtain ⟨a1, a2, _, a4⟩ := polMake_ok (flat_good h).u h0
 exact ⟨⟨a1, a2⟩, a4⟩
theorem nz_of {t : TermD} (h : GoodR t.c) (h0 : qv t.c ≠ 0) : nz t = true := by
 unfold nz
 rw [decide_eq_false fun e => h0 (h.nil_iff.1 e)]; rfl
theorem nz_len {t : TermD} (h : nz t = true) : ¬ t.c.num.length = 0 := by unfold nz at h; simpa using h
theorem monMul_of {a b : MonD} (ha : monMay a = true) (hb : monMay b = true) (h : monMay (addM a b) = true) : monMul a b = (0, addM a b) := by
 unfold monMul; rw [ha, hb, h]; rfl
theorem monMul_may {a b : MonD} (h : (monMul a b).1 = 0) : monMay (addM a b) = true := by
 unfold monMul at h
 split at h
 ·cases h
 ·split at h
  ·cases h
  ·rename_i h1; simpa using h1
structure TimesOk (s t : TermD) : Prop where
 good : GoodT (mulT s t)
 val : qv (mulT s t).c = qv s.c * qv t.c
 may : monMay (addM s.m t.m) = true
theorem timesOk {s t : TermD} (hs : GoodT s) (ht : GoodT t) (h1 : (mulD s.c t.c).1 = 0) (h2 : (monMul s.m t.m).1 = 0) : TimesOk s t := by
 have hm := monMul_may h2
 rcases mulD_q hs.c ht.c with e | ⟨e, hf⟩
 ·rw [e] at h1; cases h1
 ·exact ⟨⟨by show GoodR (mulD s.c t.c).2; rw [e]; exact ofQ_good hf, hm⟩, by show qv (mulD s.c t.c).2 = _; rw [e]; exact qv_ofQ _, hm⟩
theorem timesL_good {t : TermD} (ht : GoodT t) : ∀ {p : List TermD}, GoodP p → (timesL t p).1 = 0 → (timesL t p).2 = (p.map fun s => mulT s t) ∧ ∀ s ∈ p, TimesOk s t
 | [], _, _ => ⟨rfl, fun s h => by cases h⟩
 | s :: r, hp, h => by
   rw [timesL_cons] at h ⊢
   by_cases h1 : (mulD s.c t.c).1 = 0
   ·rw [if_neg (by simpa using h1)] at h ⊢
    by_cases h2 : (monMul s.m t.m).1 = 0
    ·rw [if_neg (by simpa using h2)] at h ⊢
     by_cases h3 : (timesL t r).1 = 0
     ·rw [if_neg (by simpa using h3)]
      obtain ⟨a1, a2⟩ := timesL_good ht hp.tl h3
      have hk := timesOk hp.hd ht h1 h2
      refine ⟨?_, fun x hx => ?_⟩
      ·rw [List.map_cons, a1, monMul_of hp.hd.m ht.m hk.may]; rfl
      ·rcases List.mem_cons.1 hx with rfl | hx
       ·exact hk
       ·exact a2 x hx
     ·rw [if_pos (by simpa using h3)] at h; exact absurd h h3
    ·rw [if_pos (by simpa using h2)] at h; exact absurd h h2
   ·rw [if_pos (by simpa using h1)] at h; exact absurd h h1
theorem lin_timesM (f : MonD → Rat) {t : TermD} : ∀ {p : List TermD}, (∀ s ∈ p, TimesOk s t) → lin f (p.map fun s => mulT s t) = qv t.c * lin (fun m => f (addM m t.m)) p
 | [], _ => by simp only [List.map_nil, lin]; grind
 | s :: p, h => by
   simp only [List.map_cons, lin]
   rw [lin_timesM f fun x hx => h x (by simp [hx]), (h s (by simp)).val]
   show qv s.c * qv t.c * f (addM s.m t.m) + _ = _
   grind
theorem canon_times {o : Int} {t : TermD} {p : List TermD} (hp : Canon o p) (ht : GoodT t) (hz : nz t = true) (h : ∀ s ∈ p, TimesOk s t) : Canon o (p.map fun s => mulT s t) := by
 have hmem : ∀ x ∈ p.map (fun s => mulT s t), ∃ s ∈ p, mulT s t = x := fun x hx => List.mem_map.1 hx
 refine ⟨⟨hp.sta.ord, fun x hx => ?_, ?_⟩, fun x hx => ?_, fun x hx => ?_⟩
 ·obtain ⟨s, hs, rfl⟩ := hmem x hx; exact (h s hs).good.m
 ·unfold Fall
  rw [List.pairwise_map]
  refine List.Pairwise.imp_of_mem ?_ hp.sta.fall
  intro a b ha hb hab
  show 0 < monCmp o (addM a.m t.m) (addM b.m t.m)
  rwa [monCmp_mul hp.sta.ord (hp.sta.good a ha) (hp.sta.good b hb) ht.m (h a ha).may (h b hb).may]
 ·obtain ⟨s, hs, rfl⟩ := hmem x hx; exact (h s hs).good
 ·obtain ⟨s, hs, rfl⟩ := hmem x hx
  refine nz_of (h s hs).good.c ?_
  rw [(h s hs).val]
  intro e
  rcases Rat.mul_eq_zero.1 e with e | e
  ·exact (hp.good s hs).ne (hp.nz s hs) e
  ·exact ht.ne hz e
theorem polTimes_timesL {o : Int} {t : TermD} {p : List TermD} (hp : CP o p) (ht : GoodT t) (hz : nz t = true) : polTimes o p t = timesL t p := by
 unfold polTimes
 rw [hp.may, ht.right, if_neg (by simp), if_neg (nz_len hz)]
theorem polTimes_good {o : Int} {t : TermD} {p : List TermD} (hp : CP o p) (ht : GoodT t) (hz : nz t = true) (h0 : (polTimes o p t).1 = 0) :
    CP o (polTimes o p t).2 ∧ (∀ f, lin f (polTimes o p t).2 = qv t.c * lin (fun m => f (addM m t.m)) p) ∧ Fits p t.m := by
 rw [polTimes_timesL hp ht hz] at h0 ⊢
 obtain ⟨a1, a2⟩ := timesL_good ht hp.canon.good h0
 rw [a1]
 exact ⟨⟨canon_times hp.canon ht hz a2, by rw [List.length_map]; exact hp.len⟩, fun f => lin_timesM f a2, fun s hs => (a2 s hs).may⟩
def linP (f : MonD → Rat) (p q : List TermD) : Rat := lin (fun m' => lin (fun m => f (addM m m')) p) q
theorem linP_snoc (f : MonD → Rat) (p q : List TermD) (t : TermD) : linP f p (q ++ [t]) = linP f p q + qv t.c * lin (fun m => f (addM m t.m)) p := by
 unfold linP
 rw [lin_app]
 simp only [lin]
 grind
theorem mulC_good {o : Int} {p : List TermD} (hp : CP o p) : ∀ {q : List TermD}, GoodP q → (∀ t ∈ q, nz t = true) → (mulC o p q).1 = 0 → (mulC o p q).2 = prods p q ∧ ∀ t ∈ q, ∀ s ∈ p, TimesOk s t
 | [], _, _, _ => ⟨rfl, fun s h => by cases h⟩
 | t :: q, hq, hz, h => by
   unfold mulC at h ⊢
   have hzt := hz t (by simp)
   rw [polTimes_timesL hp hq.hd hzt] at h ⊢
   by_cases h1 : (timesL t p).1 = 0
   ·rw [if_neg (by simpa using h1)] at h ⊢
    obtain ⟨a1, a2⟩ := timesL_good hq.hd hp.canon.good h1
    unfold appD at h ⊢
    by_cases h2 : (mulC o p q).1 = 0
    ·rw [if_neg (by simpa using h2)]
     obtain ⟨b1, b2⟩ := mulC_good hp hq.tl (fun x hx => hz x (by simp [hx])) h2
     refine ⟨?_, fun x hx => ?_⟩
     ·rw [a1, b1]; rfl
     ·rcases List.mem_cons.1 hx with rfl | hx
      ·exact a2
      ·exact b2 x hx
    ·rw [if_pos (by simpa using h2)] at h; exact absurd h h2
   ·rw [if_pos (by simpa using h1)] at h; exact absurd h h1
theorem lin_prodsM (f : MonD → Rat) {p : List TermD} : ∀ {q : List TermD}, (∀ t ∈ q, ∀ s ∈ p, TimesOk s t) → lin f (prods p q) = linP f p q
 | [], _ => rfl
 | t :: q, h => by
   show lin f ((p.map fun s => mulT s t) ++ prods p q) = _
   rw [lin_app, lin_prodsM f fun x hx => h x (by simp [hx]), lin_timesM f (h t (by simp))]
   rfl
theorem prods_good {p q : List TermD} (h : ∀ t ∈ q, ∀ s ∈ p, TimesOk s t) : GoodP (prods p q) := fun x hx => by
 unfold prods at hx
 obtain ⟨t, ht, hx⟩ := List.mem_flatMap.1 hx
 obtain ⟨s, hs, rfl⟩ := List.mem_map.1 hx
 exact (h t ht s hs).good
theorem polMul_good {o : Int} {p q : List TermD} (hp : CP o p) (hq : CP o q) (h0 : (polMul o p q).1 = 0) :
    CP o (polMul o p q).2 ∧ (∀ f, lin f (polMul o p q).2 = linP f p q) ∧ ∀ t ∈ q, Fits p t.m := by
 unfold polMul at h0 ⊢
 rw [hp.may, hq.may, if_neg (by simp)] at h0 ⊢
 by_cases h1 : (mulC o p q).1 = 0
 ·rw [if_neg (by simpa using h1)] at h0 ⊢
  obtain ⟨a1, a2⟩ := mulC_good hp hq.canon.good hq.canon.nz h1
  rw [a1] at h0 ⊢
  obtain ⟨b1, b2, _, b4⟩ := polMake_ok (prods_good a2).u h0
  exact ⟨⟨b1, b2⟩, fun f => (b4 f).trans (lin_prodsM f a2), fun t ht s hs => (a2 t ht s hs).may⟩
 ·rw [if_pos (by simpa using h1)] at h0; exact absurd h0 h1
theorem monDiv_true {a b q : MonD} (h : monDiv a b = (true, q)) : monMay a = true ∧ monMay b = true ∧ monMay q = true ∧ addM b q = a := by
 unfold monDiv at h
 split at h
 ·cases h
 ·rename_i h1
  split at h
  ·cases h
  ·rename_i h2
   simp only [Prod.mk.injEq, true_and] at h
   subst h
   have h3 : monMay a = true ∧ monMay b = true := by simpa using h1
   refine ⟨h3.1, h3.2, by simpa using h2, ?_⟩
   obtain ⟨a0, a1, a2, a3⟩ := a
   unfold addM subM
   simp only [MonD.mk.injEq]
   omega
theorem monDiv_of {a b q : MonD} (ha : monMay a = true) (hb : monMay b = true) (hq : monMay q = true) (h : addM b q = a) : monDiv a b = (true, q) := by
 have e : subM a b = q := by
  subst h
  obtain ⟨q0, q1, q2, q3⟩ := q
  unfold addM subM
  simp only [MonD.mk.injEq]
  omega
 unfold monDiv
 rw [ha, hb, e, hq]; rfl
theorem addD_lit {r s : RatD} (hr : Lit r) (hs : Lit s) : (addD r s).1 = 0 := by
 obtain ⟨g, a, b⟩ := hr
 obtain ⟨g', a', b'⟩ := hs
 have key : ∀ x y : Nat, x < 18446744073709551616 → y < 18446744073709551616 → x * y ≤ 18446744073709551616 ^ 2 := fun x y hx hy =>
  ah (Nat.mul_le_mul (Nat.le_of_lt hx) (Nat.le_of_lt hy)) (by decide)
 have l1 := key _ _ a b'
 have l2 := key _ _ a' b
 have l3 := key _ _ b b'
 have hp : (plusD r.neg (val r.num * val s.den) s.neg (val s.num * val r.den)).2 ≤ val r.num * val s.den + val s.num * val r.den := by
  have h := sg_plus r.neg (val r.num * val s.den) s.neg (val s.num * val r.den)
  have h2 := congrArg Int.natAbs h
  rw [sg_abs] at h2
  rw [h2]
  refine ah (Int.natAbs_add_le _ _) ?_
  rw [sg_abs, sg_abs]
  exact ae _
 have lim : ∀ n : Nat, n ≤ 18446744073709551616 ^ 2 + 18446744073709551616 ^ 2 → (limbs n).length ≤ 8 := fun n h => limbs_len.2 (Nat.lt_of_le_of_lt h (by decide))
 have hb : isBig [limbs (val r.num * val s.den), limbs (val s.num * val r.den), limbs (plusD r.neg (val r.num * val s.den) s.neg (val s.num * val r.den)).2, limbs (val r.den * val s.den)] = false := isBig_no fun x hx => by
  simp only [List.mem_cons, List.not_mem_nil, or_false] at hx
  rcases hx with rfl | rfl | rfl | rfl
  ·exact lim _ (by omega)
  ·exact lim _ (by omega)
  ·exact lim _ (by omega)
  ·exact lim _ (by omega)
 unfold addD
 rw [g.may, g'.may, if_neg (by simp), hb, if_neg (by simp), makeD_q _ _ _ (Nat.mul_ne_zero g.den g'.den) (lim _ (by omega)) (lim _ (by omega))]
theorem hasM_of {al : List TermD} {m : MonD} (h : hasM al m = true) : ∃ x ∈ al, x.m = m ∧ getM al m = x.c := by
 unfold hasM at h
 unfold getM
 cases e : al.find? fun p => decide (p.m = m) with
 | none =>
   rw [List.find?_eq_none] at e
   obtain ⟨x, hx, h2⟩ := List.any_eq_true.1 h
   exact absurd h2 (e x hx)
 | some x => exact ⟨x, List.mem_of_find?_eq_some e, by simpa using List.find?_some e, rfl⟩
theorem putAll_cons (o : Int) (al : List TermD) (t : TermD) (ts : List TermD) : putAll o al (t :: ts) = if (putD o al t).1 ≠ 0 then ((putD o al t).1, []) else putAll o (putD o al t).2 ts := rfl
theorem putAll_app {o : Int} : ∀ {a b al : List TermD}, (putAll o al a).1 = 0 → putAll o al (a ++ b) = putAll o (putAll o al a).2 b
 | [], b, al, _ => rfl
 | t :: a, b, al, h => by
   rw [List.cons_append, putAll_cons, putAll_cons]
   rw [putAll_cons] at h
   by_cases h1 : (putD o al t).1 = 0
   ·have h2 : ¬ (putD o al t).1 ≠ 0 := fun h => h h1
    rw [if_neg h2] at h
    rw [if_neg h2, if_neg h2, putAll_app h]
   ·rw [if_pos (by simpa using h1)] at h
    exact absurd h h1
theorem putAll_fresh {o : Int} : ∀ {ts al : List TermD}, (ts.Pairwise fun p q => p.m ≠ q.m) → (∀ t ∈ ts, ∀ x ∈ al, x.m ≠ t.m) → (putAll o al ts).1 = 0 ∧ ∀ x ∈ (putAll o al ts).2, x ∈ al ∨ x ∈ ts
 | [], al, _, _ => ⟨rfl, fun x h => .inl h⟩
 | t :: ts, al, hp, hf => by
   obtain ⟨h1, h2⟩ := List.pairwise_cons.1 hp
   have hno : ¬ hasM al t.m = true := fun h => by
    obtain ⟨x, hx, e, _⟩ := hasM_of h
    exact hf t (by simp) x hx e
   have e : putD o al t = (0, insD o t al) := by unfold putD; rw [if_neg hno]
   obtain ⟨a1, a2⟩ := putAll_fresh (o := o) (ts := ts) (al := insD o t al) h2 fun s hs x hx => by
    rcases mem_insD.1 hx with rfl | hx
    ·exact h1 s hs
    ·exact hf s (by simp [hs]) x hx
   rw [putAll_cons, e]
   simp only [ne_eq, not_true_eq_false, if_false]
   refine ⟨a1, fun x hx => ?_⟩
   rcases a2 x hx with h | h
   ·rcases mem_insD.1 h with rfl | h
    ·exact .inr (by simp)
    ·exact .inl h
   ·exact .inr (by simp [h])
theorem putAll_lit {o : Int} : ∀ {ts al : List TermD}, (ts.Pairwise fun p q => p.m ≠ q.m) → (∀ t ∈ ts, Lit t.c) → (∀ x ∈ al, Lit x.c ∨ ∀ t ∈ ts, t.m ≠ x.m) → (putAll o al ts).1 = 0
 | [], al, _, _, _ => rfl
 | t :: ts, al, hp, hl, hf => by
   obtain ⟨h1, h2⟩ := List.pairwise_cons.1 hp
   have hl' : ∀ s ∈ ts, Lit s.c := fun s hs => hl s (by simp [hs])
   by_cases hm : hasM al t.m = true
   ·obtain ⟨x, hx, e, eg⟩ := hasM_of hm
    have hx1 : Lit x.c := by
     rcases hf x hx with h | h
     ·exact h
     ·exact absurd e.symm (h t (by simp))
    have ha := addD_lit hx1 (hl t (by simp))
    have e2 : putD o al t = (0, setM al t.m (addD x.c t.c).2) := by unfold putD; rw [if_pos hm, eg, if_neg (by rw [ha]; simp)]
    rw [putAll_cons, e2]
    simp only [ne_eq, not_true_eq_false, if_false]
    refine putAll_lit h2 hl' fun y hy => ?_
    obtain ⟨z, hz, rfl⟩ := List.mem_map.1 hy
    split
    ·exact .inr fun s hs e => h1 s hs e.symm
    ·rcases hf z hz with h | h
     ·exact .inl h
     ·exact .inr fun s hs => h s (by simp [hs])
   ·have e2 : putD o al t = (0, insD o t al) := by unfold putD; rw [if_neg hm]
    rw [putAll_cons, e2]
    simp only [ne_eq, not_true_eq_false, if_false]
    refine putAll_lit h2 hl' fun y hy => ?_
    rcases mem_insD.1 hy with rfl | hy
    ·exact .inl (hl _ (by simp))
    ·rcases hf y hy with h | h
     ·exact .inl h
     ·exact .inr fun s hs => h s (by simp [hs])
theorem polAdd_lit {o : Int} {X Y : List TermD} (hX : CP o X) (hY : CP o Y) (hl : X.length + Y.length ≤ 60) (lX : ∀ x ∈ X, Lit x.c) (lY : ∀ x ∈ Y, Lit x.c) :
    ∃ Z, polAdd o [X, Y] = (0, Z) ∧ CP o Z ∧ ∀ f, lin f Z = lin f X + lin f Y := by
 have hps : ∀ p ∈ [X, Y], CP o p := fun p hp => by
  simp only [List.mem_cons, List.not_mem_nil, or_false] at hp
  rcases hp with rfl | rfl
  ·exact hX
  ·exact hY
 have ef : [X, Y].flatten = X ++ Y := by simp
 obtain ⟨a1, a2⟩ := putAll_fresh (o := o) (ts := X) (al := []) hX.canon.sta.keys (fun t _ x hx => by cases hx)
 have a3 := putAll_lit (o := o) (ts := Y) (al := (putAll o [] X).2) hY.canon.sta.keys lY fun x hx => by
  rcases a2 x hx with h | h
  ·cases h
  ·exact .inl (lX x h)
 have a4 : (putAll o [] (X ++ Y)).1 = 0 := by rw [putAll_app a1]; exact a3
 have a5 : (putAll o [] (X ++ Y)).2.length ≤ (X ++ Y).length := putAll_len (o := o) (by rw [← a4])
 have hg : GoodP (X ++ Y) := hX.canon.good.app hY.canon.good
 have h0 : (polAdd o [X, Y]).1 = 0 := by
  rw [polAdd_make hps, ef]
  unfold polMake
  rw [anyOdd_good hg, show ordered o = true from hX.may |> fun h => by unfold polMay at h; simp only [Bool.and_eq_true] at h; exact h.2.1, if_neg (by simp), if_neg (by rw [a4]; simp), if_neg (by
   have := List.length_filter_le nz (putAll o [] (X ++ Y)).2
   rw [List.length_append] at a5
   omega)]
 obtain ⟨b1, b2⟩ := polAdd_good hps h0
 refine ⟨_, Prod.ext h0 rfl, b1, fun f => ?_⟩
 rw [b2 f, ef, lin_app]
structure RaiseOk (o : Int) (m by_ : MonD) (s : Int) (t : TermD) (p X : List TermD) : Prop where
 cp : CP o X
 len : X.length = (t :: p).length
 lit : ∀ x ∈ X, Lit x.c
 lin : ∀ f, lin f X = ((s : Rat) * (qv t.c)⁻¹) * lin (fun n => f (addM n by_)) (t :: p)
 head : ∃ x X', X = x :: X' ∧ x.m = m ∧ qv x.c = (s : Rat)
theorem raise_good {o : Int} {m by_ : MonD} {s : Int} {t : TermD} {p : List TermD} (hp : SmP o (t :: p)) (hs : s = 1 ∨ s = -1) (hd : monDiv m t.m = (true, by_)) (hf : Fits (t :: p) by_) :
    ∃ X, raiseD o m (t :: p) s = (0, X) ∧ RaiseOk o m by_ s t p X := by
 have tm : t ∈ t :: p := by simp
 have hcp := hp.cp
 obtain ⟨m1, m2, m3, m4⟩ := monDiv_true hd
 have hint : ∀ x ∈ t :: p, Lit x.c ∧ val x.c.num ≤ 1280 ∧ val x.c.den = 1 := fun x hx => by
  obtain ⟨n, e⟩ := hp.pol.ints.int x hx
  have h1 := ah (mass_mem hx) hp.pol.ints.mass
  have h2 : val x.c.den = 1 := by rw [e]; rfl
  exact ⟨⟨(hp.pol.canon.good x hx).c, by omega, by omega⟩, h1, h2⟩
 obtain ⟨lt, tn, td⟩ := hint t tm
 have tz := hp.pol.canon.nz t tm
 have tz' : t.c.num.length ≠ 0 := by unfold nz at tz; simpa using tz
 have tq := (hp.pol.canon.good t tm).ne tz
 obtain ⟨i1, i2⟩ := invD_q lt.1 tz'
 have ik : invD t.c = (0, ⟨t.c.neg, t.c.den, t.c.num⟩) := by
  unfold invD
  rw [lt.1.may, if_neg (by simp), if_neg tz']
 obtain ⟨r, hr⟩ : ∃ r, (invD t.c).2 = r := ⟨_, rfl⟩
 have r1 : r = ofQ (qv t.c)⁻¹ := by rw [← hr, i1]
 have rq : qv r = (qv t.c)⁻¹ := by rw [r1, qv_ofQ]
 have rn : val r.num = 1 ∧ val r.den = val t.c.num := by
  rw [← hr, ik]; exact ⟨td, rfl⟩
 have rg : GoodR r := by rw [r1]; exact ofQ_good i2
 have rl : Lit r := ⟨rg, by omega, by omega⟩
 have sa : s.natAbs = 1 := by rcases hs with rfl | rfl <;> rfl
 have sl : Lit (ofD s) ∧ val (ofD s).num = 1 ∧ val (ofD s).den = 1 := by
  have h1 : val (ofD s).num = 1 := by rw [val_ofD]; exact sa
  have h2 : val (ofD s).den = 1 := rfl
  exact ⟨⟨ofD_good (by omega), by omega, by omega⟩, h1, h2⟩
 obtain ⟨k1, kg, kq, kn, kd⟩ := mulD_lit rl sl.1
 rw [rn.1, sl.2.1] at kn
 rw [rn.2, sl.2.2] at kd
 obtain ⟨k, hk⟩ : ∃ k, (mulD r (ofD s)).2 = k := ⟨_, rfl⟩
 rw [hk] at kg kq kn kd
 rw [rq, qv_ofD] at kq
 have kl : Lit k := ⟨kg, by omega, by omega⟩
 have sne : (s : Rat) ≠ 0 := by rcases hs with rfl | rfl <;> decide
 have tine : (qv t.c)⁻¹ ≠ 0 := fun h => by
  have := Rat.mul_inv_cancel _ tq
  rw [h, Rat.mul_zero] at this
  exact absurd this (by decide)
 have kne : qv k ≠ 0 := by
  rw [kq]
  intro h
  rcases Rat.mul_eq_zero.1 h with h | h
  ·exact tine h
  ·exact sne h
 have hT : GoodT ⟨k, by_⟩ := ⟨kg, m3⟩
 have hz : nz ⟨k, by_⟩ = true := nz_of kg kne
 have each : ∀ x ∈ t :: p, (mulD x.c k).1 = 0 ∧ monMul x.m by_ = (0, addM x.m by_) := fun x hx => ⟨(mulD_lit (hint x hx).1 kl).1, monMul_of (hcp.canon.good x hx).m m3 (hf x hx)⟩
 have hok : ∀ x ∈ t :: p, TimesOk x ⟨k, by_⟩ := fun x hx => timesOk (hcp.canon.good x hx) hT (each x hx).1 (by rw [(each x hx).2])
 have hX : polTimes o (t :: p) ⟨k, by_⟩ = (0, (t :: p).map fun x => mulT x ⟨k, by_⟩) := by rw [polTimes_timesL hcp hT hz]; exact timesL_map each
 refine ⟨_, ?_, ⟨canon_times hcp.canon hT hz hok, by rw [List.length_map]; exact hcp.len⟩, by rw [List.length_map], fun x hx => ?_, fun f => ?_, ⟨_, _, rfl, m4, ?_⟩⟩
 ·unfold raiseD
  simp only
  rw [hr, show (invD t.c).1 = 0 by rw [i1], if_neg (by simp), k1, if_neg (by simp), hk, hd]
  exact hX
 ·obtain ⟨y, hy, rfl⟩ := List.mem_map.1 hx
  obtain ⟨a1, a2, a3⟩ := hint y hy
  obtain ⟨_, b2, b3, b4, b5⟩ := mulD_lit a1 kl
  rw [a3] at b5
  exact ⟨b2, Nat.lt_of_le_of_lt b4 (Nat.lt_of_le_of_lt (Nat.mul_le_mul a2 kn) (by omega)), Nat.lt_of_le_of_lt b5 (by omega)⟩
 ·rw [lin_timesM f hok, kq]
  congr 1
  exact Rat.mul_comm _ _
 ·rw [(hok t tm).val, kq, ← Rat.mul_assoc, Rat.mul_inv_cancel _ tq, Rat.one_mul]
theorem cross_divs {o : Int} {t u : TermD} {p q : List TermD} (hp : SmP o (t :: p)) (hq : SmP o (u :: q)) :
    ∃ m b1 b2, monLcm t.m u.m = m ∧ monMay m = true ∧ monDiv m t.m = (true, b1) ∧ monDiv m u.m = (true, b2) ∧ Fits (t :: p) b1 ∧ Fits (u :: q) b2 ∧ Low 3 [⟨zeroD, m⟩] ∧ m = maxM t.m u.m := by
 have lt := hp.low t (by simp)
 have lu := hq.low u (by simp)
 have mt := hp.pol.canon.sta.good t (by simp)
 have mu := hq.pol.canon.sta.good u (by simp)
 have e : monLcm t.m u.m = maxM t.m u.m := by unfold monLcm; rw [mt, mu]; rfl
 have hm : monMay (maxM t.m u.m) = true := monMay_low (by simp only [maxM]; omega)
 have d1 : monDiv (maxM t.m u.m) t.m = (true, subM (maxM t.m u.m) t.m) := monDiv_of hm mt (monMay_low (by simp only [maxM, subM]; omega)) (by
  unfold addM subM
  rcases h : maxM t.m u.m with ⟨a, b, c, d⟩
  simp only [MonD.mk.injEq]
  omega)
 have d2 : monDiv (maxM t.m u.m) u.m = (true, subM (maxM t.m u.m) u.m) := monDiv_of hm mu (monMay_low (by simp only [maxM, subM]; omega)) (by
  unfold addM subM
  rcases h : maxM t.m u.m with ⟨a, b, c, d⟩
  simp only [MonD.mk.injEq]
  omega)
 refine ⟨_, _, _, e, hm, d1, d2, fun x hx => ?_, fun x hx => ?_, fun x hx => ?_, rfl⟩
 ·have lx := hp.low x hx
  exact monMay_low (by simp only [addM, maxM, subM]; omega)
 ·have lx := hq.low x hx
  exact monMay_low (by simp only [addM, maxM, subM]; omega)
 ·simp only [List.mem_singleton] at hx
  subst hx
  simp only [maxM]
  omega
structure CrossOk (o : Int) (m b1 b2 : MonD) (t u : TermD) (p q X Y Z : List TermD) : Prop where
 eq : crossD o (t :: p) (u :: q) = (0, Z)
 cp : CP o Z
 x : RaiseOk o m b1 1 t p X
 y : RaiseOk o m b2 (-1) u q Y
 sum : ∀ f, lin f Z = lin f X + lin f Y
theorem cross_good {o : Int} {t u : TermD} {p q : List TermD} (hp : SmP o (t :: p)) (hq : SmP o (u :: q)) {m b1 b2 : MonD} (e : monLcm t.m u.m = m) (d1 : monDiv m t.m = (true, b1)) (d2 : monDiv m u.m = (true, b2)) (f1 : Fits (t :: p) b1) (f2 : Fits (u :: q) b2) :
    ∃ X Y Z, CrossOk o m b1 b2 t u p q X Y Z := by
 obtain ⟨X, eX, hX⟩ := raise_good hp (.inl rfl) d1 f1
 obtain ⟨Y, eY, hY⟩ := raise_good (s := -1) hq (.inr rfl) d2 f2
 have l1 := hp.len
 have l2 := hq.len
 obtain ⟨Z, eZ, cZ, sZ⟩ := polAdd_lit hX.cp hY.cp (by rw [hX.len, hY.len]; omega) hX.lit hY.lit
 refine ⟨X, Y, Z, ?_, cZ, hX, hY, sZ⟩
 unfold crossD
 rw [hp.cp.may, hq.cp.may, if_neg (by simp)]
 simp only
 rw [e, eX, eY, if_neg (by simp), if_neg (by simp)]
 exact eZ
theorem CrossOk.below {o : Int} {m b1 b2 : MonD} {t u : TermD} {p q X Y Z : List TermD} (h : CrossOk o m b1 b2 t u p q X Y Z) (hm : monMay m = true) {v : TermD} (hv : v ∈ Z) : monCmp o v.m m < 0 := by
 have ho := h.cp.ord
 obtain ⟨x, X', rfl, xm, xq⟩ := h.x.head
 obtain ⟨y, Y', rfl, ym, yq⟩ := h.y.head
 have vm := h.cp.canon.sta.good v hv
 have hne := h.cp.ne hv
 have e0 := lin_ind_mem h.cp.canon.sta.keys hv
 have bx : ∀ z ∈ X', monCmp o z.m m < 0 := fun z hz => by
  have h1 := h.x.cp.below z hz
  rw [xm] at h1
  have h2 := monCmp_anti ho hm (h.x.cp.canon.sta.good z (by simp [hz]))
  omega
 have by_ : ∀ z ∈ Y', monCmp o z.m m < 0 := fun z hz => by
  have h1 := h.y.cp.below z hz
  rw [ym] at h1
  have h2 := monCmp_anti ho hm (h.y.cp.canon.sta.good z (by simp [hz]))
  omega
 have far : ∀ (l : List TermD) (k : MonD), (∀ z ∈ l, z.m ≠ k) → lin (ind k) l = 0 := fun l k hl => lin_ind_not hl
 by_cases hvm : v.m = m
 ·exfalso
  have s := h.sum (ind v.m)
  rw [e0, hvm] at s
  have z1 := far X' m fun z hz e => by
   have := bx z hz
   rw [e, (monCmp_zero ho hm hm).2 rfl] at this
   omega
  have z2 := far Y' m fun z hz e => by
   have := by_ z hz
   rw [e, (monCmp_zero ho hm hm).2 rfl] at this
   omega
  simp only [lin, z1, z2, xm, ym, xq, yq, ind, if_true] at s
  apply hne
  rw [s, Rat.intCast_neg]
  grind
 ·have hin : (∃ z ∈ X', z.m = v.m) ∨ ∃ z ∈ Y', z.m = v.m := by
    by_cases h1 : ∃ z ∈ X', z.m = v.m
    ·exact .inl h1
    by_cases h2 : ∃ z ∈ Y', z.m = v.m
    ·exact .inr h2
    exfalso
    have s := h.sum (ind v.m)
    have z1 := far X' v.m fun z hz e => h1 ⟨z, hz, e⟩
    have z2 := far Y' v.m fun z hz e => h2 ⟨z, hz, e⟩
    have i0 : ind v.m m = 0 := by unfold ind; rw [if_neg (Ne.symm hvm)]
    rw [e0] at s
    simp only [lin, z1, z2, xm, ym, i0, Rat.mul_zero, Rat.add_zero] at s
    exact hne s
  rcases hin with ⟨z, hz, e⟩ | ⟨z, hz, e⟩
  ·rw [← e]; exact bx z hz
  ·rw [← e]; exact by_ z hz
end Go.Proofs.YtgjkgkgieeoalaaGreat
namespace Go.Proofs.YtgjkgkgieeoalaaGreat
open Go.RowKit
def qT (n : Int) (m : Int × Int × Int) : TermD := ⟨ofD n, ⟨m.1.tmod 3, m.2.1.tmod 3, m.2.2.tmod 3, 0⟩⟩
def smQ (ns : List Int) (ms : List (Int × Int × Int)) : List TermD := ((ns.zip ms).take 4).map fun x => qT x.1 x.2
def madeQ (o : Int) (ns : List Int) (ms : List (Int × Int × Int)) : List TermD := (polMake o (smQ ns ms)).2
theorem qT_sm {n : Int} {m : Int × Int × Int} (hn : -128 ≤ n ∧ n ≤ 127) (hm : (0 ≤ m.1 ∧ m.1 ≤ 255) ∧ (0 ≤ m.2.1 ∧ m.2.1 ≤ 255) ∧ (0 ≤ m.2.2 ∧ m.2.2 ≤ 255)) : Ints 128 [qT n m] ∧ Low 3 [qT n m] := by
 have key : ∀ x : Int, 0 ≤ x → 0 ≤ x.tmod 3 ∧ x.tmod 3 ≤ 3 := fun x hx => by
  rw [Int.tmod_eq_emod_of_nonneg hx]; omega
 have k1 := key _ hm.1.1
 have k2 := key _ hm.2.1.1
 have k3 := key _ hm.2.2.1
 refine ⟨(Ints.one (monMay_low ?_)).le (by omega), fun s hs => ?_⟩
 ·simp only []
  omega
 ·simp only [List.mem_cons, List.not_mem_nil, or_false] at hs
  rw [hs]
  simp only [qT]
  omega
theorem smQ_sm {w : World} {A B : Option Addr} {c d : Nat} {ns : List Int} {ms : List (Int × Int × Int)} (h : RSm w A c B d ns ms) : Sm (smQ ns ms) := by
 have hb : ∀ x ∈ (ns.zip ms).take 4, (-128 ≤ x.1 ∧ x.1 ≤ 127) ∧ (0 ≤ x.2.1 ∧ x.2.1 ≤ 255) ∧ (0 ≤ x.2.2.1 ∧ x.2.2.1 ≤ 255) ∧ (0 ≤ x.2.2.2 ∧ x.2.2.2 ≤ 255) := fun x hx => by
  have hx := List.mem_of_mem_take hx
  have h1 := List.of_mem_zip (a := x.1) (b := x.2) hx
  exact ⟨h.nb _ h1.1, h.mb _ h1.2⟩
 have hl : ((ns.zip ms).take 4).length ≤ 10 := by rw [List.length_take]; omega
 unfold smQ
 generalize (ns.zip ms).take 4 = l at hb hl ⊢
 have key : Ints (128 * l.length) (l.map fun x => qT x.1 x.2) ∧ Low 3 (l.map fun x => qT x.1 x.2) := by
  clear hl
  induction l with
  | nil => exact ⟨Ints.nil, fun s hs => by cases hs⟩
  | cons x l ih =>
    obtain ⟨h1, h2⟩ := ih fun y hy => hb y (by simp [hy])
    obtain ⟨h3, h4⟩ := qT_sm (hb x (by simp)).1 (hb x (by simp)).2
    refine ⟨?_, h4.app h2⟩
    have := h3.app h1
    rw [List.length_cons, Nat.mul_add, Nat.add_comm (128 * l.length)]
    exact this
 exact ⟨key.1.le (by omega), key.2, by rw [List.length_map]; exact hl⟩
theorem madeQ_sm {o : Int} (ho : oOk o) {w : World} {A B : Option Addr} {c d : Nat} {ns : List Int} {ms : List (Int × Int × Int)} (h : RSm w A c B d ns ms) : SmP o (madeQ o ns ms) := ((smQ_sm h).make ho).1
theorem smQ_take {ns : List Int} {ms : List (Int × Int × Int)} {i : Nat} {n : Int} {m : Int × Int × Int} (hn : ns[i]? = some n) (hm : ms[i]? = some m) (hi : i < 4) : (smQ ns ms).take i ++ [qT n m] = (smQ ns ms).take (i + 1) := by
 have h : (smQ ns ms)[i]? = some (qT n m) := by
  unfold smQ
  rw [List.getElem?_map, List.getElem?_take, if_pos hi, List.getElem?_zip_eq_some (z := (n, m)) |>.2 ⟨hn, hm⟩]; rfl
 rw [List.take_add_one, h]; rfl
theorem smQ_end {ns : List Int} {ms : List (Int × Int × Int)} {i : Nat} (h : ¬ i < ns.length ∨ ¬ i < ms.length ∨ ¬ i < 4) : (smQ ns ms).take i = smQ ns ms := by
 refine List.take_of_length_le ?_
 unfold smQ
 rw [List.length_map, List.length_take, List.length_zip]
 omega
theorem law14_made (b0 : Nat) (order : Int) (A B : Option Addr) (c d : Nat) (ns : List Int) (ms : List (Int × Int × Int)) (w : World) (hb0 : b0 ≤ w.heap.size) (h : RSm w A c B d ns ms) :
    Calls Tryz.prog 38 #[.int .i64 order, .agg #[.slice A ns.length c, .slice B ms.length d]] w fun e w' => ∃ A' c', e = .returned (.slice A' (madeQ order ns ms).length c') ∧
     (madeQ order ns ms).length ≤ c' ∧ RPol w' b0 A' (madeQ order ns ms) ∧ Below w.heap.size w w' := by
 obtain ⟨D, hD⟩ : ∃ D, madeQ order ns ms = D := ⟨_, rfl⟩
 rw [hD]
 have HD := aa hD
 clear hD
 have HR := aa h
 have HB0 := aa hb0
 clear h hb0
 go_enter Tryz.func38, Tryz.ntmps38
 go_upto_region 2 with (fail)
 refine wp_gen (fun W => Below w.heap.size w W ∧ Bk W w.heap.size 83 #[.slice A ns.length c, .slice B ms.length d] ∧ OwnT W b0 (w.heap.size + 1) (.slice (some ⟨w.heap.size + 1, 0, none⟩) 0 0) []) ?_ ?_
 ·refine ⟨((ag _ _).alloc (ae _) _).alloc (by simp) _, (Bk.new_ _ _ _).al _, ?_⟩
  have := ownT_lit (w.alloc (Obj.cells #[.slice A ns.length c, .slice B ms.length d] 83)) b0 (w.heap.size + 1) (by simp)
  simpa using this
 intro W0 hW
 have HK := aa (af hW.out.1 hW.out.2.1)
 have HO := aa hW.out.2.2
 clear hW
 go_wp2_with fail
 go_loopw [5, 6] (fun v5 v6 wr => ∃ (i : Nat) (acc : List TermD), v6 = .int .i64 i ∧ i ≤ 4 ∧ acc.length = i ∧ Hd (acc = (smQ ns ms).take i) ∧ Hd (OwnT wr b0 (w.heap.size + 1) v5 acc) ∧ Hd (Below w.heap.size w wr ∧ Bk wr w.heap.size 83 #[.slice A ns.length c, .slice B ms.length d])) (fun _ v _ => 4 - (intOf v).toNat)
 case atStart => exact ⟨0, [], rfl, by omega, rfl, ⟨rfl⟩, HO, HK⟩
 case round =>
  clear HO HK
  obtain ⟨i, acc, rfl, hi, hfl, HFA, HO, HK⟩ := hrel
  obtain ⟨Av, cv, rfl, hcv, _, hrv⟩ := HO.out.reads
  have HRV := aa hrv
  have HLN := aa hfl
  obtain ⟨p0, p1⟩ := HK.out.2.two'
  clear hrv hfl
  by_cases h1 : i < ns.length
  ·have i1 : (i : Int) < ns.length := by omega
   by_cases h2 : i < ms.length
   ·have i2 : (i : Int) < ms.length := by omega
    by_cases h3 : i < 4
    ·have i3 : (i : Int) < 4 := by omega
     obtain ⟨n, hn⟩ : ∃ n, ns[i]? = some n := ⟨_, ai h1⟩
     obtain ⟨m, hm⟩ : ∃ m, ms[i]? = some m := ⟨_, ai h2⟩
     obtain ⟨ad, eA, hab, hca⟩ := (HR.out.n.below HK.out.1).2 (by omega)
     obtain ⟨bd, eB, hbb, hcb⟩ := (HR.out.m.below HK.out.1).2 (by omega)
     have q0 := hca i (.int .i8 n) (by rw [ints_get _ _ _ h1, List.getD_eq_getElem?_getD, hn]; rfl)
     obtain ⟨f0, f1, f2⟩ := flat3_get hm
     have q1 := hcb _ _ f0
     have q2 := hcb _ _ f1
     have q3 := hcb _ _ f2
     rw [add_pos _ _ 1 (by omega)] at q2
     rw [add_pos _ _ 2 (by omega)] at q3
     subst eA eB
     have HN := aa (af hn hm)
     have HFL : Hd (acc ++ [qT n m] = (smQ ns ms).take (i + 1)) := ⟨by rw [HFA.out]; exact smQ_take hn hm h3⟩
     have nb := HR.out.nb n (List.mem_of_getElem? hn)
     have mb := HR.out.mb m (List.mem_of_getElem? hm)
     have v0 : IntKind.i64.wrap n = n := by rw [IntKind.wrap_i64]; omega
     have v1 : IntKind.i64.wrap m.1 = m.1 := by rw [IntKind.wrap_i64]; omega
     have v2 : IntKind.i64.wrap m.2.1 = m.2.1 := by rw [IntKind.wrap_i64]; omega
     have v3 : IntKind.i64.wrap m.2.2 = m.2.2 := by rw [IntKind.wrap_i64]; omega
     have CO : Hd (∀ W, Hd (Below wr.heap.size wr W) → Calls Tryz.prog 46 #[.int .i64 (IntKind.i64.wrap n)] W fun e w' => ∃ x, e = .returned x ∧ RRat w' b0 x (ofD n) ∧ Below W.heap.size W w') := ⟨by
      rw [v0]
      exact fun W hB => rrat_Of b0 n W (ah HB0.out (ah HK.out.1.size hB.out.size)) (by omega) (by omega)⟩
     have HFL' : Hd (acc ++ [⟨ofD n, ⟨(IntKind.i64.wrap m.1).tmod 3, (IntKind.i64.wrap m.2.1).tmod 3, (IntKind.i64.wrap m.2.2).tmod 3, 0⟩⟩] = (smQ ns ms).take (i + 1)) := ⟨by rw [v1, v2, v3]; exact HFL.out⟩
     generalize ofD n = X at CO HFL'
     clear v0 v1 v2 v3 nb mb
     clear hn hm f0 f1 f2 hca hcb
     go_wp2_with fail
     have b1 : (ad.add i).block < w.heap.size + 1 := by rw [add_block]; omega
     have b2 : (bd.add (i * 3)).block < w.heap.size + 1 := by rw [add_block]; omega
     have SO := aa (fun W (hB : Below (w.heap.size + 1) wr W) => af (aa hB) (af ((hB.cell (p := ⟨w.heap.size, 0, none⟩) (Nat.lt_succ_self _)).trans p0) (af ((hB.cell (p := ⟨w.heap.size, 1, none⟩) (Nat.lt_succ_self _)).trans p1) (af ((hB.cell b1).trans q0) (af ((hB.cell b2).trans q1) (af ((hB.cell (p := ⟨(bd.add (i * 3)).block, (bd.add (i * 3)).off + 1, none⟩) b2).trans q2) ((hB.cell (p := ⟨(bd.add (i * 3)).block, (bd.add (i * 3)).off + 2, none⟩) b2).trans q3)))))))
     have HZ : Hd (w.heap.size + 1 ≤ wr.heap.size) := ⟨HK.out.2.lt⟩
     clear b1 b2
     go_region_held3 (fun w' => Hd (Below (w.heap.size + 1) wr w') ∧ w'.cell? ⟨w.heap.size, 0, none⟩ = some (.slice (some ad) ns.length c) ∧ w'.cell? ⟨w.heap.size, 1, none⟩ = some (.slice (some bd) ms.length d) ∧ w'.cell? (ad.add i) = some (.int .i8 n) ∧ w'.cell? (bd.add (i * 3)) = some (.int .u8 m.1) ∧ w'.cell? ⟨(bd.add (i * 3)).block, (bd.add (i * 3)).off + 1, none⟩ = some (.int .u8 m.2.1) ∧ w'.cell? ⟨(bd.add (i * 3)).block, (bd.add (i * 3)).off + 2, none⟩ = some (.int .u8 m.2.2))
      (first
       | with_reducible exact SO.out _ (ag _ _)
       | with_reducible exact SO.out _ (ag _ _).drew
       | with_reducible exact SO.out _ HB6.out
       | with_reducible exact SO.out _ (HB6.out.alloc HB6z.out _)
       | with_reducible exact SO.out _ AP.below
       | fail)
      (first
       | (go_at_call 46; with_reducible refine (CO.out wr.drew ⟨(ag _ _).drew⟩).mono ?_; rintro e w5 ⟨x, rfl, hx, hb⟩
          have hB5 : Below wr.heap.size wr w5 := (ag wr.heap.size wr).drew.trans hb
          have HB5 := aa hB5
          have hx2 := hx
          obtain ⟨TA, tc, TB, td, rfl, _, _, _, _⟩ := hx2
          have T1 := rpol_one (t := ⟨X, ⟨(IntKind.i64.wrap m.1).tmod 3, (IntKind.i64.wrap m.2.1).tmod 3, (IntKind.i64.wrap m.2.2).tmod 3, 0⟩⟩) (rterm_of hx ⟨(IntKind.i64.wrap m.1).tmod 3, (IntKind.i64.wrap m.2.1).tmod 3, (IntKind.i64.wrap m.2.2).tmod 3, 0⟩) 68
          dsimp only at T1
          obtain ⟨tn, htn⟩ : ∃ tn : TermD, tn = ⟨X, ⟨(IntKind.i64.wrap m.1).tmod 3, (IntKind.i64.wrap m.2.1).tmod 3, (IntKind.i64.wrap m.2.2).tmod 3, 0⟩⟩ := ⟨_, rfl⟩
          rw [← htn] at T1
          have HT1 := aa T1
          have HFL2 : Hd (acc ++ [tn] = (smQ ns ms).take (i + 1)) := ⟨by rw [htn]; exact HFL'.out⟩
          have XL : Hd (acc.length + [tn].length ≤ 1000000) := ⟨by have := HLN.out; simp; omega⟩
          have HB6 := aa (hB5.mono HZ.out)
          have HB6z : Hd (w.heap.size + 1 ≤ w5.heap.size) := ⟨ah HZ.out hB5.size⟩
          clear T1 htn)
       | (refine step_append_T (w0 := wr) (us := [tn]) (B := w.heap.size + 1) rfl _ _ 24 rfl Tryz.slTerms rfl rfl rfl (HO.out.up (hB5.alloc hB5.size _)) HT1.out (Nat.le_succ_of_le HB0.out) XL.out (HB6.out.alloc HB6z.out _) (ae _) (ah HZ.out (hB5.alloc hB5.size _).size) ?_; intro v' w8 AP))
     all_goals
      have HAP := aa AP
      have HK8 := aa (af (HK.out.1.trans (AP.below.mono (Nat.le_succ _))) (AP.bk (HK.out.2.up (hB5.alloc hB5.size _)) (Nat.lt_succ_self _)))
      have hl2 : (acc ++ [tn]).length = i + 1 := by rw [List.length_append, HLN.out]; rfl
      clear AP
      go_wp2_with fail
      go_roundw
      case measure => first | (simp [intOf]; done) | (simp [intOf]; omega)
      case rel => exact ⟨i + 1, _, by go_num, by omega, hl2, HFL2, ⟨HAP.out.own⟩, HK8⟩
    ·have HE : Hd (acc = smQ ns ms) := ⟨HFA.out.trans (smQ_end (.inr (.inr h3)))⟩
     have i3 : ¬ (i : Int) < 4 := by omega
     have HM : Hd ((polMake order acc).2 = D) := ⟨by rw [HE.out]; exact HD.out⟩
     have CM := aa (rpol_Make b0 order Av cv acc wr (ah HB0.out HK.out.1.size) HRV.out hcv (by have := HLN.out; omega) (by rw [HE.out]; exact (smQ_sm HR.out).ints.short (by decide) (by have := (smQ_sm HR.out).len; omega)))
     rw [HM.out] at CM
     go_wp2_with fail
     refine CM.out.mono ?_
     rintro e w6 ⟨A6, c6, rfl, hc6, hr6, hb6⟩
     have HB6 := aa (goes HK.out.1 hb6)
     have HR6 := aa hr6
     clear hb6 hr6
     go_wp2_with fail
     go_ret
     exact ⟨A6, c6, rfl, hc6, HR6.out, HB6.out⟩
   ·have HE : Hd (acc = smQ ns ms) := ⟨HFA.out.trans (smQ_end (.inr (.inl h2)))⟩
    have i2 : ¬ (i : Int) < ms.length := by omega
    have HM : Hd ((polMake order acc).2 = D) := ⟨by rw [HE.out]; exact HD.out⟩
    have CM := aa (rpol_Make b0 order Av cv acc wr (ah HB0.out HK.out.1.size) HRV.out hcv (by have := HLN.out; omega) (by rw [HE.out]; exact (smQ_sm HR.out).ints.short (by decide) (by have := (smQ_sm HR.out).len; omega)))
    rw [HM.out] at CM
    go_wp2_with fail
    refine CM.out.mono ?_
    rintro e w6 ⟨A6, c6, rfl, hc6, hr6, hb6⟩
    have HB6 := aa (goes HK.out.1 hb6)
    have HR6 := aa hr6
    clear hb6 hr6
    go_wp2_with fail
    go_ret
    exact ⟨A6, c6, rfl, hc6, HR6.out, HB6.out⟩
  ·have HE : Hd (acc = smQ ns ms) := ⟨HFA.out.trans (smQ_end (.inl h1))⟩
   have i1 : ¬ (i : Int) < ns.length := by omega
   have HM : Hd ((polMake order acc).2 = D) := ⟨by rw [HE.out]; exact HD.out⟩
   have CM := aa (rpol_Make b0 order Av cv acc wr (ah HB0.out HK.out.1.size) HRV.out hcv (by have := HLN.out; omega) (by rw [HE.out]; exact (smQ_sm HR.out).ints.short (by decide) (by have := (smQ_sm HR.out).len; omega)))
   rw [HM.out] at CM
   go_wp2_with fail
   refine CM.out.mono ?_
   rintro e w6 ⟨A6, c6, rfl, hc6, hr6, hb6⟩
   have HB6 := aa (goes HK.out.1 hb6)
   have HR6 := aa hr6
   clear hb6 hr6
   go_wp2_with fail
   go_ret
   exact ⟨A6, c6, rfl, hc6, HR6.out, HB6.out⟩
end Go.Proofs.YtgjkgkgieeoalaaGreat
