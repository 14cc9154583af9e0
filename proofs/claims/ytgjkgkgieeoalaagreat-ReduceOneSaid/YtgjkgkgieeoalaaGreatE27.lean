/- Parts of the proof, joined: each theorem says what it shows. -/
import Derived.Test.YtgjkgkgieeoalaaGreatE01
import Derived.Test.YtgjkgkgieeoalaaGreatE24
import Derived.Test.YtgjkgkgieeoalaaGreatE18
import Derived.Test.YtgjkgkgieeoalaaGreatE23
import Derived.Test.YtgjkgkgieeoalaaGreatE20
import Derived.Test.YtgjkgkgieeoalaaGreatE25
import Derived.Test.YtgjkgkgieeoalaaGreatE12
set_option linter.unusedVariables false
set_option linter.unusedSimpArgs false
set_option maxHeartbeats 24000000
set_option maxRecDepth 100000
namespace Go.Proofs.YtgjkgkgieeoalaaGreat
theorem putD_size (o : Int) (al : List TermD) (t : TermD) : (putD o al t).2.length ≤ al.length + 1 := by
 unfold putD
 split
 ·split
  ·simp
  ·simp [setM]
 ·rw [(insD_perm o t al).length_eq]; simp
theorem putAll_size (o : Int) : ∀ (ts al : List TermD), (putAll o al ts).2.length ≤ al.length + ts.length
 | [], al => by simp [putAll]
 | t :: ts, al => by
   unfold putAll
   split
   ·simp
   ·have h1 := putAll_size o ts (putD o al t).2
    have h2 := putD_size o al t
    simp only [List.length_cons]
    omega
theorem polSum_len (o : Int) (ts : List TermD) : (polSum o ts).length ≤ ts.length := by
 unfold polSum
 have h1 := putAll_size o ts []
 have h2 := List.length_filter_le nz (putAll o [] ts).2
 simp only [List.length_nil] at h1
 omega
structure Sm (ts : List TermD) : Prop where
 ints : Ints 1280 ts
 low : Low 3 ts
 len : ts.length ≤ 10
structure SmP (o : Int) (p : List TermD) : Prop where
 pol : Pol o 1280 p
 low : Low 3 p
 len : p.length ≤ 10
theorem Sm.make {o : Int} (ho : oOk o) {ts : List TermD} (h : Sm ts) : SmP o (polMake o ts).2 ∧ (polMake o ts).1 = 0 := by
 have hs := sum_ok ho h.ints (by decide)
 have hl := polSum_len o ts
 have h10 := h.len
 have e : polMake o ts = (0, polSum o ts) := by rw [hs.make, if_neg (by omega)]
 obtain ⟨h1, _⟩ := hs.pol (by rw [e])
 rw [e] at h1 ⊢
 exact ⟨⟨h1, h.low.sum hs, by show (polSum o ts).length ≤ 10; omega⟩, rfl⟩
theorem SmP.fits {o : Int} {p q : List TermD} (hp : SmP o p) (hq : SmP o q) : ∀ t ∈ q, Fits p t.m := hp.low.fits hq.low (by decide)
section
variable {o : Int} {p q r : List TermD}
theorem prods_sum (hp : SmP o p) (hq : SmP o q) : SumOk o (1280 * 1280) (prods p q) ∧ polMul o p q = polMake o (prods p q) :=
 ⟨sum_ok hp.pol.canon.sta.ord (prods_ints hp.pol.ints (by decide) hq.pol.ints (by decide) (hp.fits hq)) (by decide), polMul_int hp.pol (by decide) hq.pol (by decide) (hp.fits hq)⟩
theorem addM_zero (m : MonD) : addM m zeroM = m := by unfold addM zeroM; simp
theorem monMay_zero : monMay zeroM = true := by decide
end
end Go.Proofs.YtgjkgkgieeoalaaGreat
namespace Go.Proofs.YtgjkgkgieeoalaaGreat
open Go.RowKit
def flat3 (ms : List (Int × Int × Int)) : List Value := ms.flatMap fun m => [.int .u8 m.1, .int .u8 m.2.1, .int .u8 m.2.2]
structure RSm (w : World) (A : Option Addr) (c : Nat) (B : Option Addr) (d : Nat) (ns : List Int) (ms : List (Int × Int × Int)) : Prop where
 n : Rd w w.heap.size 1 A ns.length (ints .i8 ns)
 m : Rd w w.heap.size 3 B ms.length (flat3 ms)
 nc : ns.length ≤ c
 md : ms.length ≤ d
 nb : ∀ x ∈ ns, -128 ≤ x ∧ x ≤ 127
 mb : ∀ x ∈ ms, (0 ≤ x.1 ∧ x.1 ≤ 255) ∧ (0 ≤ x.2.1 ∧ x.2.1 ≤ 255) ∧ (0 ≤ x.2.2 ∧ x.2.2 ≤ 255)
theorem RSm.up {w w' : World} {A B : Option Addr} {c d : Nat} {ns : List Int} {ms : List (Int × Int × Int)} (h : RSm w A c B d ns ms) (hb : Below w.heap.size w w') : RSm w' A c B d ns ms :=
 ⟨h.n.up hb, h.m.up hb, h.nc, h.md, h.nb, h.mb⟩
theorem flat3_get : ∀ {ms : List (Int × Int × Int)} {i : Nat} {m : Int × Int × Int}, ms[i]? = some m →
    (flat3 ms)[i * 3]? = some (.int .u8 m.1) ∧ (flat3 ms)[i * 3 + 1]? = some (.int .u8 m.2.1) ∧ (flat3 ms)[i * 3 + 2]? = some (.int .u8 m.2.2)
 | [], i, m, h => by simp at h
 | x :: ms, 0, m, h => by
   simp only [List.getElem?_cons_zero, Option.some.injEq] at h
   subst h
   exact ⟨rfl, rfl, rfl⟩
 | x :: ms, i + 1, m, h => by
   have := flat3_get (ms := ms) (i := i) (m := m) (by simpa using h)
   have e : flat3 (x :: ms) = .int .u8 x.1 :: .int .u8 x.2.1 :: .int .u8 x.2.2 :: flat3 ms := rfl
   rw [e, show (i + 1) * 3 = i * 3 + 1 + 1 + 1 by omega]
   simpa using this
theorem Ints.short {M : Nat} {p : List TermD} (h : Ints M p) (hM : M < 18446744073709551616) (hl : p.length ≤ 1000000) : shortP p :=
 ⟨hl, fun s hs => by
  obtain ⟨n, e⟩ := h.int s hs
  have h1 := ah (mass_mem hs) h.mass
  rw [e] at h1 ⊢
  exact ofD_short n (by have : val (ofD n).num = n.natAbs := val_limbs _; omega)⟩
end Go.Proofs.YtgjkgkgieeoalaaGreat
namespace Go.Proofs.YtgjkgkgieeoalaaGreat
open Go.ChangeShapes Go.WideShapes Go.RowKit
theorem Tryz.slI8 : Tryz.prog.underlying 56 = some (.slice 142) := by kernel_rfl
theorem Tryz.slM3 : Tryz.prog.underlying 57 = some (.slice 76) := by kernel_rfl
theorem Tryz.arM3 : Tryz.prog.underlying 76 = some (.array 3 5) := by kernel_rfl
theorem Tryz.undI8 : Tryz.prog.underlying 142 = some (.int .i8) := by kernel_rfl
theorem Tryz.undU8 : Tryz.prog.underlying 5 = some (.int .u8) := by kernel_rfl
theorem Tryz.cuI8 : Tryz.prog.cellsOf 142 = 1 := by kernel_rfl
theorem Tryz.cuU8 : Tryz.prog.cellsOf 5 = 1 := by kernel_rfl
theorem Tryz.cuM3 : Tryz.prog.cellsOf 76 = 3 := by kernel_rfl
def trip (m : Int × Int × Int) : List Value := [.int .u8 m.1, .int .u8 m.2.1, .int .u8 m.2.2]
theorem flat3_app (l m : List (Int × Int × Int)) : flat3 (l ++ m) = flat3 l ++ flat3 m := by simp [flat3]
theorem flat3_len (l : List (Int × Int × Int)) : (flat3 l).length = l.length * 3 := by
 induction l with
 | nil => rfl
 | cons x l ih => rw [show flat3 (x :: l) = trip x ++ flat3 l from rfl, List.length_append, ih, List.length_cons]; show 3 + _ = _; omega
section
variable {H : Type} {enc : TypeId × Value → H} {w : World} {base : Nat} {spare : Nat → Bool} {held : Bool} {fuel : Nat} {cs : List Value} {x : DataW H × List MemPlace}
theorem rd_row {t e : TypeId} {k : IntKind} (ht : Tryz.prog.underlying t = some (.slice e)) (he : Tryz.prog.underlying e = some (.int k)) (hc1 : Tryz.prog.cellsOf e = 1)
    (h : DataW.trod enc Tryz.prog w base spare held fuel t cs = some x) : ∃ A l c, cs = [.slice A l.length c] ∧ l.length ≤ c ∧ c ≤ maxLen ∧ Rd w w.heap.size 1 A l.length (ints k l) ∧ ∀ n ∈ l, (Lit.int k n).wf = true := by
 rcases open_ints ht he hc1 h with ⟨e, _⟩ | ⟨a, len, cap, zs, e, _, hl, hm, hz, _, hc, hw⟩
 ·exact ⟨none, [], 0, e, ae _, by unfold maxLen; omega, Rd.nil, fun n hn => by cases hn⟩
 ·have hle : len ≤ zs.length := by rw [hz]; split <;> omega
  have hlen : (zs.take len).length = len := by rw [List.length_take]; omega
  refine ⟨some a, zs.take len, cap, by rw [hlen]; exact e, by rw [hlen]; exact hl, hm, ⟨by rw [ints_len, Nat.mul_one], fun hn => ⟨a, rfl, ?_, fun j u hu => ?_⟩⟩, fun n hn => hw n (List.mem_of_mem_take hn)⟩
  ·have := World.block_lt_of_cell? w _ (hc 0 (by omega))
   rwa [add_block] at this
  ·have hj : j < len := by
     have : j < (ints k (zs.take len)).length := by
      rcases Nat.lt_or_ge j (ints k (zs.take len)).length with h1 | h1
      ·exact h1
      ·rw [List.getElem?_eq_none h1] at hu; cases hu
     rwa [ints_len, hlen] at this
   rw [ints_get _ _ _ (by rw [hlen]; exact hj)] at hu
   injection hu with hu
   rw [← hu, hc j (by omega)]
   simp [List.getD_eq_getElem?_getD, hj]
theorem rd_m3 (h : DataW.trod enc Tryz.prog w base spare held fuel 76 cs = some x) : ∃ m : Int × Int × Int, cs = trip m ∧ (0 ≤ m.1 ∧ m.1 ≤ 255) ∧ (0 ≤ m.2.1 ∧ m.2.1 ≤ 255) ∧ (0 ≤ m.2.2 ∧ m.2.2 ≤ 255) := by
 obtain ⟨xs, n, _, _, hl, hx, hi⟩ := DataW.trod_array Tryz.arM3 h
 rw [Tryz.cuM3] at hl
 have get : ∀ i, i < 3 → ∃ k : Int, (cs.drop i).take 1 = [.int .u8 k] ∧ 0 ≤ k ∧ k ≤ 255 := fun i h4 => by
  have h1 := hi i h4
  rw [Tryz.cuU8, Nat.mul_one, ai (by omega)] at h1
  obtain ⟨k, e, _, hw⟩ := DataW.trod_int Tryz.undU8 h1
  exact ⟨k, e, bounds_u8 hw⟩
 match cs, hl with
 | [v0, v1, v2], _ =>
   obtain ⟨a0, e0, b0⟩ := get 0 (by omega)
   obtain ⟨a1, e1, b1⟩ := get 1 (by omega)
   obtain ⟨a2, e2, b2⟩ := get 2 (by omega)
   simp only [List.drop_zero, List.drop_succ_cons, List.take_succ_cons, List.take_zero, List.cons.injEq, and_true] at e0 e1 e2
   subst e0 e1 e2
   exact ⟨(a0, a1, a2), rfl, b0, b1, b2⟩
theorem rows3_up {a : Addr} {T : Nat → Int × Int × Int} : ∀ (n : Nat), (∀ i, i < n → ∀ k u, (trip (T i))[k]? = some u → w.cell? (a.add (i * 3 + k)) = some u) →
    ∀ j u, (flat3 ((List.range n).map T))[j]? = some u → w.cell? (a.add j) = some u
 | 0, _ => fun j u h => by simp [flat3] at h
 | n + 1, h => by
   have h2 := rows3_up n (fun i hi => h i (by omega))
   have h4 := h n (by omega)
   have hlen := flat3_len ((List.range n).map T)
   rw [List.length_map, List.length_range] at hlen
   rw [List.range_succ, List.map_append, flat3_app]
   intro j u hu
   rcases Nat.lt_or_ge j (n * 3) with hj | hj
   ·rw [List.getElem?_append_left (by omega)] at hu
    exact h2 j u hu
   ·rw [List.getElem?_append_right (by omega), hlen] at hu
    have := h4 (j - n * 3) u hu
    rwa [show n * 3 + (j - n * 3) = j by omega] at this
theorem rd_m3s (h : DataW.trod enc Tryz.prog w base spare held fuel 57 cs = some x) :
    ∃ B ms d, cs = [.slice B ms.length d] ∧ ms.length ≤ d ∧ Rd w w.heap.size 3 B ms.length (flat3 ms) ∧ ∀ m ∈ ms, (0 ≤ m.1 ∧ m.1 ≤ 255) ∧ (0 ≤ m.2.1 ∧ m.2.1 ≤ 255) ∧ (0 ≤ m.2.2 ∧ m.2.2 ≤ 255) := by
 rcases Deep.open_slice Tryz.slM3 h with ⟨e, _⟩ | ⟨a, len, cap, m, n, D, Pl, e, _, hl, hm, hmm, _, hx⟩
 ·exact ⟨none, [], 0, e, ae _, ⟨rfl, fun h => by cases h⟩, fun m hm => by cases hm⟩
 ·have hle : len ≤ m := by rw [hmm]; split <;> omega
  have hel : ∀ i, ∃ p : Int × Int × Int, i < len → (∀ k u, (trip p)[k]? = some u → w.cell? (a.add (i * 3 + k)) = some u) ∧ (0 ≤ p.1 ∧ p.1 ≤ 255) ∧ (0 ≤ p.2.1 ∧ p.2.1 ≤ 255) ∧ (0 ≤ p.2.2 ∧ p.2.2 ≤ 255) := fun i => by
   by_cases hi : i < len
   ·obtain ⟨cs', h1, h2⟩ := hx i (by omega)
    rw [Tryz.cuM3] at h1
    obtain ⟨s, rfl, hs⟩ := rd_m3 h2
    obtain ⟨_, h3, h4⟩ := World.cells?_some h1
    refine ⟨s, fun _ => ⟨fun k u hu => ?_, hs⟩⟩
    have hk : k < 3 := by
     rcases Nat.lt_or_ge k (trip s).length with h5 | h5
     ·exact h5
     ·rw [List.getElem?_eq_none h5] at hu; cases hu
    rw [← add_add, h4 k hk]; exact hu
   ·exact ⟨(0, 0, 0), fun h => absurd h hi⟩
  obtain ⟨F, hF⟩ := Classical.axiomOfChoice hel
  have h2 := rows3_up (w := w) (a := a) (T := F) len (fun i hi => (hF i hi).1)
  have hlen : ((List.range len).map F).length = len := by simp
  refine ⟨some a, (List.range len).map F, cap, by rw [hlen]; exact e, by rw [hlen]; exact hl, ⟨flat3_len _, fun hn => ⟨a, rfl, ?_, h2⟩⟩, fun s hs => ?_⟩
  ·rw [hlen] at hn
   have := World.block_lt_of_cell? w _ ((hF 0 hn).1 0 _ rfl)
   rwa [add_block] at this
  ·obtain ⟨i, hi, rfl⟩ := List.mem_map.1 hs
   exact (hF i (List.mem_range.1 hi)).2
end
theorem Sm.take {l : List TermD} (h : Sm l) (k : Nat) : Sm (l.take k) := by
 refine ⟨⟨fun t ht => h.ints.int t (List.mem_of_mem_take ht), fun t ht => h.ints.good t (List.mem_of_mem_take ht), ?_⟩, fun t ht => h.low t (List.mem_of_mem_take ht), by rw [List.length_take]; have := h.len; omega⟩
 have h1 := mass_app (l.take k) (l.drop k)
 rw [List.take_append_drop] at h1
 have := h.ints.mass
 omega
theorem Tryz.fldSmall_14 : fieldsAt (Tryz.prog.underlying 83) = [(56, 0), (57, 1)] := by kernel_rfl
theorem Tryz.cuSmall_14 : Tryz.prog.cellsOf 83 = 2 := by kernel_rfl
theorem Tryz.cuSlI8_14 : Tryz.prog.cellsOf 56 = 1 := by kernel_rfl
theorem Tryz.cuSlM3_14 : Tryz.prog.cellsOf 57 = 1 := by kernel_rfl
section
variable {H : Type} {enc : TypeId × Value → H} {w : World} {base : Nat} {spare : Nat → Bool} {held : Bool} {fuel : Nat} {cs : List Value} {x : DataW H × List MemPlace}
theorem rd_small_14 (h : DataW.trod enc Tryz.prog w base spare held fuel 83 cs = some x) : ∃ A ns c B ms d, cs = [.slice A ns.length c, .slice B ms.length d] ∧ RSm w A c B d ns ms := by
 obtain ⟨f, g, e, t1, o1, t2, o2⟩ := two_of Tryz.fldSmall_14
 obtain ⟨y0, y1, n, _, hl, h0, h1⟩ := trod_struct2 e h
 rw [Tryz.cuSmall_14] at hl
 rw [t1, o1, Tryz.cuSlI8_14] at h0
 rw [t2, o2, Tryz.cuSlM3_14] at h1
 match cs, hl with
 | [v0, v1], _ =>
   simp only [List.drop_zero, List.drop_succ_cons, List.take_succ_cons, List.take_zero] at h0 h1
   obtain ⟨A, ns, c, e0, l1, _, r1, b1⟩ := rd_row Tryz.slI8 Tryz.undI8 Tryz.cuI8 h0
   obtain ⟨B, ms, d, e1, l2, r2, b2⟩ := rd_m3s h1
   simp only [List.cons.injEq, and_true] at e0 e1
   subst e0 e1
   exact ⟨A, ns, c, B, ms, d, rfl, r1, r2, l1, l2, fun n hn => bounds_i8 (b1 n hn), b2⟩
end
end Go.Proofs.YtgjkgkgieeoalaaGreat
namespace Go.Proofs.YtgjkgkgieeoalaaGreat
theorem lin_van {g : MonD → Rat} {p : List TermD} (h : ∀ s ∈ p, g s.m = 0) : lin g p = 0 := by
 induction p with
 | nil => rfl
 | cons t p ih =>
   simp only [lin]
   rw [h t (by simp), ih fun s hs => h s (by simp [hs])]
   grind
theorem mulM_lt {o : Int} (ho : oOk o) {a b c : MonD} (ha : monMay a = true) (hb : monMay b = true) (hc : monMay c = true) (hac : monMay (addM a c) = true) (hbc : monMay (addM b c) = true) (h : 0 < monCmp o a b) : monCmp o (addM b c) (addM a c) < 0 := by
 rw [monCmp_mul ho hb ha hc hbc hac, monCmp_anti ho ha hb]
 omega
theorem lead {o : Int} {t u : TermD} {p q : List TermD} (hp : SmP o (t :: p)) (hq : SmP o (u :: q)) (h0 : (polMul o (t :: p) (u :: q)).1 = 0) : ∃ s r, (polMul o (t :: p) (u :: q)).2 = s :: r ∧ s.m = addM t.m u.m := by
 have ho := hp.pol.canon.sta.ord
 obtain ⟨h1, e1⟩ := prods_sum hp hq
 have hf := hp.fits hq
 have gp := hp.pol.canon.sta.good
 have gq := hq.pol.canon.sta.good
 obtain ⟨fp, _⟩ := List.pairwise_cons.1 hp.pol.canon.sta.fall
 obtain ⟨fq, _⟩ := List.pairwise_cons.1 hq.pol.canon.sta.fall
 have tm : t ∈ t :: p := by simp
 have um : u ∈ u :: q := by simp
 have W := hf u um t tm
 have lt1 : ∀ s ∈ p, ∀ v ∈ u :: q, monCmp o (addM s.m v.m) (addM t.m v.m) < 0 := fun s hs v hv =>
  mulM_lt ho (gp t tm) (gp s (by simp [hs])) (gq v hv) (hf v hv t tm) (hf v hv s (by simp [hs])) (fp s hs)
 have lt2 : ∀ v ∈ q, monCmp o (addM t.m v.m) (addM t.m u.m) < 0 := fun v hv => by
  have := mulM_lt ho (gq u um) (gq v (by simp [hv])) (gp t tm) (by rw [addM_comm]; exact W) (by rw [addM_comm]; exact hf v (by simp [hv]) t tm) (fq v hv)
  rwa [addM_comm v.m, addM_comm u.m] at this
 have lt3 : ∀ s ∈ t :: p, ∀ v ∈ q, monCmp o (addM s.m v.m) (addM t.m u.m) < 0 := fun s hs v hv => by
  have hv' : v ∈ u :: q := by simp [hv]
  rcases List.mem_cons.1 hs with rfl | hs
  ·exact lt2 v hv
  ·exact monCmp_lt ho (hf v hv' s (by simp [hs])) (hf v hv' t tm) W (lt1 s hs v hv') (lt2 v hv)
 have ne : ∀ {m : MonD}, monMay m = true → monCmp o m (addM t.m u.m) < 0 → m ≠ addM t.m u.m := fun hm h e => by
  have := (monCmp_zero ho hm W).2 e
  omega
 have hG : lin (ind (addM t.m u.m)) (prods (t :: p) (u :: q)) = qv u.c * qv t.c := by
  rw [lin_prods hp.pol.ints (by decide) _ hq.pol.ints (by decide)]
  simp only [lin]
  rw [lin_van (p := q) (fun v hv => ?_), lin_van (p := p) (fun s hs => ?_)]
  ·unfold ind
   rw [if_pos rfl]
   grind
  ·unfold ind
   rw [if_neg (ne (hf u um s (by simp [hs])) (lt1 s hs u um))]
  ·show qv t.c * ind (addM t.m u.m) (addM t.m v.m) + lin (fun m => ind (addM t.m u.m) (addM m v.m)) p = 0
   have hv' : v ∈ u :: q := by simp [hv]
   rw [lin_van (p := p) (fun s hs => ?_)]
   ·unfold ind
    rw [if_neg (ne (hf v hv' t tm) (lt3 t tm v hv))]
    grind
   ·unfold ind
    rw [if_neg (ne (hf v hv' s (by simp [hs])) (lt3 s (by simp [hs]) v hv))]
 have hne : qv u.c * qv t.c ≠ 0 := by
  have a1 := (hp.pol.canon.good t tm).ne (hp.pol.canon.nz t tm)
  have a2 := (hq.pol.canon.good u um).ne (hq.pol.canon.nz u um)
  intro h
  rcases Rat.mul_eq_zero.1 h with h | h
  ·exact a2 h
  ·exact a1 h
 rw [e1] at h0 ⊢
 obtain ⟨hpol, e2⟩ := h1.pol h0
 have hlin := h1.lin (ind (addM t.m u.m))
 rw [hG] at hlin
 have hcan := h1.canon
 have hmem := h1.mem
 rw [e2]
 show ∃ s r, polSum o (prods (t :: p) (u :: q)) = s :: r ∧ s.m = addM t.m u.m
 generalize polSum o (prods (t :: p) (u :: q)) = x at hlin hcan hmem
 have hle : ∀ s ∈ x, monCmp o s.m (addM t.m u.m) ≤ 0 := fun s hs => by
  obtain ⟨y, hy, e⟩ := hmem s hs
  rw [← e]
  unfold prods at hy
  obtain ⟨v, hv, hy⟩ := List.mem_flatMap.1 hy
  obtain ⟨z, hz, rfl⟩ := List.mem_map.1 hy
  show monCmp o (addM z.m v.m) (addM t.m u.m) ≤ 0
  rcases List.mem_cons.1 hv with rfl | hv
  ·rcases List.mem_cons.1 hz with rfl | hz
   ·exact Int.le_of_eq ((monCmp_zero ho W W).2 rfl)
   ·exact Int.le_of_lt (lt1 z hz v um)
  ·exact Int.le_of_lt (lt3 z hz v hv)
 have hex : ∃ s ∈ x, s.m = addM t.m u.m := by
  refine Classical.byContradiction fun hn => ?_
  rw [lin_ind_not (fun s hs e => hn ⟨s, hs, e⟩)] at hlin
  exact hne hlin.symm
 obtain ⟨s, hs, es⟩ := hex
 match x, hcan, hle, hs with
 | y :: r, hcan, hle, hs =>
   refine ⟨y, r, rfl, ?_⟩
   rcases List.mem_cons.1 hs with rfl | hs
   ·exact es
   ·have h1 := (List.pairwise_cons.1 hcan.sta.fall).1 s hs
    have h2 := hle y (by simp)
    rw [es] at h1
    omega
theorem mulD_small {r s : RatD} (hr : GoodR r) (hs : GoodR s) (h1 : val r.num * val s.num < 18446744073709551616 ^ 8) (h2 : val r.den * val s.den < 18446744073709551616 ^ 8) :
    (mulD r s).1 = 0 ∧ GoodR (mulD r s).2 ∧ qv (mulD r s).2 = qv r * qv s ∧ val (mulD r s).2.num ≤ val r.num * val s.num ∧ val (mulD r s).2.den ≤ val r.den * val s.den := by
 have l1 := limbs_len.2 h1
 have l2 := limbs_len.2 h2
 have hb : isBig [limbs (val r.num * val s.num), limbs (val r.den * val s.den)] = false := isBig_no fun x hx => by
  simp only [List.mem_cons, List.not_mem_nil, or_false] at hx
  rcases hx with rfl | rfl
  ·exact l1
  ·exact l2
 have hd : val r.den * val s.den ≠ 0 := Nat.mul_ne_zero hr.den hs.den
 have e : mulD r s = makeD (r.neg != s.neg) (limbs (val r.num * val s.num)) (limbs (val r.den * val s.den)) := by
  unfold mulD
  rw [hr.may, hs.may, if_neg (by simp), hb, if_neg (by simp)]
 rcases mulD_q hr hs with h | ⟨h, hf⟩
 ·rw [e, makeD_q _ _ _ hd l1 l2] at h
  cases h
 ·rw [h]
  refine ⟨rfl, ofQ_good hf, qv_ofQ _, ?_⟩
  rw [e, makeD_q _ _ _ hd l1 l2, ofQ_mk _ _ _ hd] at h
  have h' := congrArg Prod.snd h
  simp only at h'
  rw [← h']
  simp only [val_limbs]
  exact ⟨Nat.div_le_self _ _, Nat.div_le_self _ _⟩
theorem timesL_map {t : TermD} : ∀ {p : List TermD}, (∀ s ∈ p, (mulD s.c t.c).1 = 0 ∧ monMul s.m t.m = (0, addM s.m t.m)) → timesL t p = (0, p.map fun s => mulT s t)
 | [], _ => rfl
 | s :: r, h => by
   have ih := timesL_map (t := t) (p := r) fun x hx => h x (by simp [hx])
   obtain ⟨h1, h2⟩ := h s (by simp)
   unfold timesL
   rw [ih, h1, h2]
   simp [mulT]
theorem monMul_zero {m : MonD} (h : monMay m = true) : monMul m zeroM = (0, addM m zeroM) := by
 unfold monMul
 rw [h, monMay_zero, addM_zero, h]; rfl
def Lit (r : RatD) : Prop := GoodR r ∧ val r.num < 18446744073709551616 ∧ val r.den < 18446744073709551616
theorem mulD_lit {r s : RatD} (hr : Lit r) (hs : Lit s) : (mulD r s).1 = 0 ∧ GoodR (mulD r s).2 ∧ qv (mulD r s).2 = qv r * qv s ∧ val (mulD r s).2.num ≤ val r.num * val s.num ∧ val (mulD r s).2.den ≤ val r.den * val s.den := by
 obtain ⟨g, a, b⟩ := hr
 obtain ⟨g', a', b'⟩ := hs
 have key : ∀ x y : Nat, x < 18446744073709551616 → y < 18446744073709551616 → x * y < 18446744073709551616 ^ 8 := fun x y hx hy =>
  Nat.lt_of_lt_of_le (Nat.mul_lt_mul_of_le_of_lt (Nat.le_of_lt hx) hy (by decide)) (by decide)
 exact mulD_small g g' (key _ _ a a') (key _ _ b b')
theorem polTimes_lit {o : Int} {p : List TermD} {k : RatD} (hp : polMay o p = true) (hg : GoodM p) (hl : ∀ s ∈ p, Lit s.c) (hk : Lit k) (h0 : k.num.length ≠ 0) :
    polTimes o p ⟨k, zeroM⟩ = (0, p.map fun s => mulT s ⟨k, zeroM⟩) := by
 unfold polTimes
 rw [hp, show right ⟨k, zeroM⟩ = true from GoodT.right ⟨hk.1, monMay_zero⟩, if_neg (by simp), if_neg h0]
 exact timesL_map fun s hs => ⟨(mulD_lit (hl s hs) hk).1, monMul_zero (hg s hs)⟩
theorem mulT_zm (s : TermD) (k : RatD) : (mulT s ⟨k, zeroM⟩).m = s.m := by show addM s.m zeroM = s.m; exact addM_zero _
structure MonicOk (o : Int) (p m : List TermD) (t u : TermD) : Prop where
 monic : polMonic o p = (0, m)
 back : polTimes o m ⟨t.c, zeroM⟩ = (0, p)
 again : polMonic o m = (0, m)
 first : u.c = ofD 1
theorem monic_law {o : Int} {t : TermD} {p : List TermD} (hp : SmP o (t :: p)) : ∃ u m, m.length = p.length ∧ MonicOk o (t :: p) (u :: m) t u := by
 have tm : t ∈ t :: p := by simp
 have hmay := hp.pol.may
 have hg := hp.pol.canon.sta.good
 have hint : ∀ s ∈ t :: p, Lit s.c ∧ val s.c.num ≤ 1280 ∧ val s.c.den = 1 := fun s hs => by
  obtain ⟨n, e⟩ := hp.pol.ints.int s hs
  have h1 := ah (mass_mem hs) hp.pol.ints.mass
  have h2 : val s.c.den = 1 := by rw [e]; rfl
  exact ⟨⟨(hp.pol.canon.good s hs).c, by omega, by omega⟩, h1, h2⟩
 obtain ⟨lt, tn, td⟩ := hint t tm
 have tz := hp.pol.canon.nz t tm
 have tz' : t.c.num.length ≠ 0 := by unfold nz at tz; simpa using tz
 have tq := (hp.pol.canon.good t tm).ne tz
 obtain ⟨i1, i2⟩ := invD_q lt.1 tz'
 have ik : invD t.c = (0, ⟨t.c.neg, t.c.den, t.c.num⟩) := by
  unfold invD
  rw [lt.1.may, if_neg (by simp), if_neg tz']
 obtain ⟨k, hk⟩ : ∃ k, (invD t.c).2 = k := ⟨_, rfl⟩
 have k1 : k = ofQ (qv t.c)⁻¹ := by rw [← hk, i1]
 have kq : qv k = (qv t.c)⁻¹ := by rw [k1, qv_ofQ]
 have kn : val k.num = 1 ∧ val k.den = val t.c.num := by
  rw [← hk, ik]; exact ⟨td, rfl⟩
 have kg : GoodR k := by rw [k1]; exact ofQ_good i2
 have kl : Lit k := ⟨kg, by omega, by omega⟩
 have kne : qv k ≠ 0 := by
  rw [kq]
  intro h
  have := Rat.mul_inv_cancel _ tq
  rw [h, Rat.mul_zero] at this
  exact absurd this (by decide)
 have kz : k.num.length ≠ 0 := fun h => kne (kg.nil_iff.1 h)
 have e1 : polMonic o (t :: p) = (0, (t :: p).map fun s => mulT s ⟨k, zeroM⟩) := by
  unfold polMonic
  rw [hmay, if_neg (by simp)]
  simp only
  rw [hk, show (invD t.c).1 = 0 by rw [i1], if_neg (by simp)]
  exact polTimes_lit hmay hg (fun s hs => (hint s hs).1) kl kz
 have hm : ∀ s ∈ t :: p, Lit (mulT s ⟨k, zeroM⟩).c ∧ qv (mulT s ⟨k, zeroM⟩).c = qv s.c * (qv t.c)⁻¹ := fun s hs => by
  obtain ⟨a1, a2, a3⟩ := hint s hs
  obtain ⟨_, b2, b3, b4, b5⟩ := mulD_lit a1 kl
  rw [kn.1] at b4
  rw [a3, kn.2] at b5
  exact ⟨⟨b2, Nat.lt_of_le_of_lt b4 (by omega), Nat.lt_of_le_of_lt b5 (by omega)⟩, by rw [← kq]; exact b3⟩
 have hnz : ∀ s ∈ t :: p, qv (mulT s ⟨k, zeroM⟩).c ≠ 0 := fun s hs h => by
  rw [(hm s hs).2] at h
  rcases Rat.mul_eq_zero.1 h with h | h
  ·exact (hp.pol.canon.good s hs).ne (hp.pol.canon.nz s hs) h
  ·rw [← kq] at h; exact kne h
 have hc : Canon o ((t :: p).map fun s => mulT s ⟨k, zeroM⟩) := by
  refine ⟨⟨hp.pol.canon.sta.ord, fun x hx => ?_, ?_⟩, fun x hx => ?_, fun x hx => ?_⟩
  ·obtain ⟨s, hs, rfl⟩ := List.mem_map.1 hx
   rw [mulT_zm]; exact hg s hs
  ·unfold Fall
   rw [List.pairwise_map]
   exact hp.pol.canon.sta.fall.imp fun h => by rw [mulT_zm, mulT_zm]; exact h
  ·obtain ⟨s, hs, rfl⟩ := List.mem_map.1 hx
   exact ⟨(hm s hs).1.1, by rw [mulT_zm]; exact hg s hs⟩
  ·obtain ⟨s, hs, rfl⟩ := List.mem_map.1 hx
   have := hnz s hs
   unfold nz
   rw [decide_eq_false (fun h => this ((hm s hs).1.1.nil_iff.1 h))]; rfl
 have hmay2 := canon_may hc (by rw [List.length_map]; exact hp.pol.len)
 have e2 : polTimes o ((t :: p).map fun s => mulT s ⟨k, zeroM⟩) ⟨t.c, zeroM⟩ = (0, t :: p) := by
  rw [polTimes_lit hmay2 hc.sta.good (fun x hx => by
   obtain ⟨s, hs, rfl⟩ := List.mem_map.1 hx
   exact (hm s hs).1) lt tz', List.map_map]
  refine congrArg (Prod.mk 0) ?_
  rw [show ((t :: p).map ((fun s => mulT s ⟨t.c, zeroM⟩) ∘ fun s => mulT s ⟨k, zeroM⟩)) = (t :: p).map id from List.map_congr_left fun s hs => ?_, List.map_id]
  obtain ⟨a1, a2⟩ := hm s hs
  obtain ⟨_, b2, b3, _⟩ := mulD_lit a1 lt
  have hcc : (mulD (mulT s ⟨k, zeroM⟩).c t.c).2 = s.c := b2.inj (hint s hs).1.1 (by
   rw [b3, a2, Rat.mul_assoc, Rat.inv_mul_cancel _ tq, Rat.mul_one])
  show (⟨(mulD (mulT s ⟨k, zeroM⟩).c t.c).2, addM (mulT s ⟨k, zeroM⟩).m zeroM⟩ : TermD) = s
  rw [hcc, addM_zero, mulT_zm]
 have hu : (mulT t ⟨k, zeroM⟩).c = ofD 1 := (hm t tm).1.1.inj (ofD_small (n := 1) (by decide)) (by
  rw [(hm t tm).2, Rat.mul_inv_cancel _ tq, qv_ofD]; rfl)
 have l1 : Lit (ofD 1) := ⟨ofD_small (by decide), by rw [val_ofD]; decide, by show val [1] < _; decide⟩
 have z1 : (ofD 1).num.length ≠ 0 := ofD_num (by decide)
 have v1 : invD (ofD 1) = (0, ofD 1) := by
  unfold invD
  rw [l1.1.may, if_neg (by simp), if_neg z1]
  unfold ofD
  rw [show limbs (Int.natAbs 1) = [1] from limbs_1]
 have e3 : polMonic o ((t :: p).map fun s => mulT s ⟨k, zeroM⟩) = (0, (t :: p).map fun s => mulT s ⟨k, zeroM⟩) := by
  have hh : ∀ x ∈ (t :: p).map (fun s => mulT s ⟨k, zeroM⟩), Lit x.c := fun x hx => by
   obtain ⟨s, hs, rfl⟩ := List.mem_map.1 hx
   exact (hm s hs).1
  have h5 : polTimes o ((t :: p).map fun s => mulT s ⟨k, zeroM⟩) ⟨ofD 1, zeroM⟩ = (0, (t :: p).map fun s => mulT s ⟨k, zeroM⟩) := by
   rw [polTimes_lit hmay2 hc.sta.good hh l1 z1]
   refine congrArg (Prod.mk 0) ?_
   rw [show (((t :: p).map fun s => mulT s ⟨k, zeroM⟩).map fun s => mulT s ⟨ofD 1, zeroM⟩) = ((t :: p).map fun s => mulT s ⟨k, zeroM⟩).map id from List.map_congr_left fun x hx => ?_, List.map_id]
   obtain ⟨_, b2, b3, _⟩ := mulD_lit (hh x hx) l1
   have hcc : (mulD x.c (ofD 1)).2 = x.c := b2.inj (hh x hx).1 (by rw [b3, qv_ofD]; exact Rat.mul_one _)
   show (⟨(mulD x.c (ofD 1)).2, addM x.m zeroM⟩ : TermD) = x
   rw [hcc, addM_zero]
  unfold polMonic
  rw [hmay2, if_neg (by simp)]
  simp only [List.map_cons]
  rw [hu, v1, if_neg (by simp)]
  simpa using h5
 exact ⟨mulT t ⟨k, zeroM⟩, p.map fun s => mulT s ⟨k, zeroM⟩, by simp, e1, e2, e3, hu⟩
structure CP (o : Int) (p : List TermD) : Prop where
 canon : Canon o p
 len : p.length ≤ 60
theorem CP.may {o : Int} {p : List TermD} (h : CP o p) : polMay o p = true := canon_may h.canon h.len
theorem CP.ord {o : Int} {p : List TermD} (h : CP o p) : oOk o := h.canon.sta.ord
theorem CP.nil {o : Int} (h : oOk o) : CP o [] := ⟨canon_nil h, by simp⟩
theorem Canon.tl {o : Int} {t : TermD} {p : List TermD} (h : Canon o (t :: p)) : Canon o p :=
 ⟨⟨h.sta.ord, fun s hs => h.sta.good s (by simp [hs]), (List.pairwise_cons.1 h.sta.fall).2⟩, h.good.tl, fun s hs => h.nz s (by simp [hs])⟩
theorem CP.tl {o : Int} {t : TermD} {p : List TermD} (h : CP o (t :: p)) : CP o p := ⟨h.canon.tl, by have := h.len; simp only [List.length_cons] at this; omega⟩
theorem CP.below {o : Int} {t : TermD} {p : List TermD} (h : CP o (t :: p)) : ∀ s ∈ p, 0 < monCmp o t.m s.m := (List.pairwise_cons.1 h.canon.sta.fall).1
theorem CP.ne {o : Int} {p : List TermD} (h : CP o p) {t : TermD} (ht : t ∈ p) : qv t.c ≠ 0 := (h.canon.good t ht).ne (h.canon.nz t ht)
theorem CP.eq {o : Int} {p q : List TermD} (h : CP o p) (h' : CP o q) (e : ∀ f, lin f p = lin f q) : p = q := canon_ext h.canon h'.canon e
theorem SmP.cp {o : Int} {p : List TermD} (h : SmP o p) : CP o p := ⟨h.pol.canon, h.pol.len⟩
theorem flat_good {o : Int} : ∀ {ps : List (List TermD)}, (∀ p ∈ ps, CP o p) → GoodP ps.flatten
 | [], _ => .nil
 | p :: ps, h => by rw [List.flatten_cons]; exact (h p (by simp)).canon.good.app (flat_good fun q hq => h q (by simp [hq]))
theorem polAdd_make {o : Int} {ps : List (List TermD)} (h : ∀ p ∈ ps, CP o p) : polAdd o ps = polMake o ps.flatten := polAdd_int fun p hp => ⟨(h p hp).canon, (h p hp).len⟩
theorem polAdd_good {o : Int} {ps : List (List TermD)} (h : ∀ p ∈ ps, CP o p) (h0 : (polAdd o ps).1 = 0) : CP o (polAdd o ps).2 ∧ ∀ f, lin f (polAdd o ps).2 = lin f ps.flatten := by
 rw [polAdd_make h] at h0 ⊢
 obtain ⟨a1, a2, _, a4⟩ := polMake_ok (flat_good h).u h0
 exact ⟨⟨a1, a2⟩, a4⟩
theorem nz_of {t : TermD} (h : GoodR t.c) (h0 : qv t.c ≠ 0) : nz t = true := by
 unfold nz
 rw [decide_eq_false fun e => h0 (h.nil_iff.1 e)]; rfl
theorem nz_len {t : TermD} (h : nz t = true) : ¬ t.c.num.length = 0 := by unfold nz at h; simpa using h
theorem monMul_of {a b : MonD} (ha : monMay a = true) (hb : monMay b = true) (h : monMay (addM a b) = true) : monMul a b = (0, addM a b) := by
 unfold monMul; rw [ha, hb, h]; rfl
theorem monMul_may {a b : MonD} (h : (monMul a b).1 = 0) : monMay (addM a b) = true := by
 unfold monMul at h
 split at h
 ·cases h
 ·split at h
  ·cases h
  ·rename_i h1; simpa using h1
structure TimesOk (s t : TermD) : Prop where
 good : GoodT (mulT s t)
 val : qv (mulT s t).c = qv s.c * qv t.c
 may : monMay (addM s.m t.m) = true
theorem timesOk {s t : TermD} (hs : GoodT s) (ht : GoodT t) (h1 : (mulD s.c t.c).1 = 0) (h2 : (monMul s.m t.m).1 = 0) : TimesOk s t := by
 have hm := monMul_may h2
 rcases mulD_q hs.c ht.c with e | ⟨e, hf⟩
 ·rw [e] at h1; cases h1
 ·exact ⟨⟨by show GoodR (mulD s.c t.c).2; rw [e]; exact ofQ_good hf, hm⟩, by show qv (mulD s.c t.c).2 = _; rw [e]; exact qv_ofQ _, hm⟩
theorem timesL_good {t : TermD} (ht : GoodT t) : ∀ {p : List TermD}, GoodP p → (timesL t p).1 = 0 → (timesL t p).2 = (p.map fun s => mulT s t) ∧ ∀ s ∈ p, TimesOk s t
 | [], _, _ => ⟨rfl, fun s h => by cases h⟩
 | s :: r, hp, h => by
   rw [timesL_cons] at h ⊢
   by_cases h1 : (mulD s.c t.c).1 = 0
   ·rw [if_neg (by simpa using h1)] at h ⊢
    by_cases h2 : (monMul s.m t.m).1 = 0
    ·rw [if_neg (by simpa using h2)] at h ⊢
     by_cases h3 : (timesL t r).1 = 0
     ·rw [if_neg (by simpa using h3)]
      obtain ⟨a1, a2⟩ := timesL_good ht hp.tl h3
      have hk := timesOk hp.hd ht h1 h2
      refine ⟨?_, fun x hx => ?_⟩
      ·rw [List.map_cons, a1, monMul_of hp.hd.m ht.m hk.may]; rfl
      ·rcases List.mem_cons.1 hx with rfl | hx
       ·exact hk
       ·exact a2 x hx
     ·rw [if_pos (by simpa using h3)] at h; exact absurd h h3
    ·rw [if_pos (by simpa using h2)] at h; exact absurd h h2
   ·rw [if_pos (by simpa using h1)] at h; exact absurd h h1
theorem lin_timesM (f : MonD → Rat) {t : TermD} : ∀ {p : List TermD}, (∀ s ∈ p, TimesOk s t) → lin f (p.map fun s => mulT s t) = qv t.c * lin (fun m => f (addM m t.m)) p
 | [], _ => by simp only [List.map_nil, lin]; grind
 | s :: p, h => by
   simp only [List.map_cons, lin]
   rw [lin_timesM f fun x hx => h x (by simp [hx]), (h s (by simp)).val]
   show qv s.c * qv t.c * f (addM s.m t.m) + _ = _
   grind
theorem canon_times {o : Int} {t : TermD} {p : List TermD} (hp : Canon o p) (ht : GoodT t) (hz : nz t = true) (h : ∀ s ∈ p, TimesOk s t) : Canon o (p.map fun s => mulT s t) := by
 have hmem : ∀ x ∈ p.map (fun s => mulT s t), ∃ s ∈ p, mulT s t = x := fun x hx => List.mem_map.1 hx
 refine ⟨⟨hp.sta.ord, fun x hx => ?_, ?_⟩, fun x hx => ?_, fun x hx => ?_⟩
 ·obtain ⟨s, hs, rfl⟩ := hmem x hx; exact (h s hs).good.m
 ·unfold Fall
  rw [List.pairwise_map]
  refine List.Pairwise.imp_of_mem ?_ hp.sta.fall
  intro a b ha hb hab
  show 0 < monCmp o (addM a.m t.m) (addM b.m t.m)
  rwa [monCmp_mul hp.sta.ord (hp.sta.good a ha) (hp.sta.good b hb) ht.m (h a ha).may (h b hb).may]
 ·obtain ⟨s, hs, rfl⟩ := hmem x hx; exact (h s hs).good
 ·obtain ⟨s, hs, rfl⟩ := hmem x hx
  refine nz_of (h s hs).good.c ?_
  rw [(h s hs).val]
  intro e
  rcases Rat.mul_eq_zero.1 e with e | e
  ·exact (hp.good s hs).ne (hp.nz s hs) e
  ·exact ht.ne hz e
theorem polTimes_timesL {o : Int} {t : TermD} {p : List TermD} (hp : CP o p) (ht : GoodT t) (hz : nz t = true) : polTimes o p t = timesL t p := by
 unfold polTimes
 rw [hp.may, ht.right, if_neg (by simp), if_neg (nz_len hz)]
theorem polTimes_good {o : Int} {t : TermD} {p : List TermD} (hp : CP o p) (ht : GoodT t) (hz : nz t = true) (h0 : (polTimes o p t).1 = 0) :
    CP o (polTimes o p t).2 ∧ (∀ f, lin f (polTimes o p t).2 = qv t.c * lin (fun m => f (addM m t.m)) p) ∧ Fits p t.m := by
 rw [polTimes_timesL hp ht hz] at h0 ⊢
 obtain ⟨a1, a2⟩ := timesL_good ht hp.canon.good h0
 rw [a1]
 exact ⟨⟨canon_times hp.canon ht hz a2, by rw [List.length_map]; exact hp.len⟩, fun f => lin_timesM f a2, fun s hs => (a2 s hs).may⟩
def linP (f : MonD → Rat) (p q : List TermD) : Rat := lin (fun m' => lin (fun m => f (addM m m')) p) q
theorem linP_snoc (f : MonD → Rat) (p q : List TermD) (t : TermD) : linP f p (q ++ [t]) = linP f p q + qv t.c * lin (fun m => f (addM m t.m)) p := by
 unfold linP
 rw [lin_app]
 simp only [lin]
 grind
theorem monDiv_true {a b q : MonD} (h : monDiv a b = (true, q)) : monMay a = true ∧ monMay b = true ∧ monMay q = true ∧ addM b q = a := by
 unfold monDiv at h
 split at h
 ·cases h
 ·rename_i h1
  split at h
  ·cases h
  ·rename_i h2
   simp only [Prod.mk.injEq, true_and] at h
   subst h
   have h3 : monMay a = true ∧ monMay b = true := by simpa using h1
   refine ⟨h3.1, h3.2, by simpa using h2, ?_⟩
   obtain ⟨a0, a1, a2, a3⟩ := a
   unfold addM subM
   simp only [MonD.mk.injEq]
   omega
theorem monDiv_of {a b q : MonD} (ha : monMay a = true) (hb : monMay b = true) (hq : monMay q = true) (h : addM b q = a) : monDiv a b = (true, q) := by
 have e : subM a b = q := by
  subst h
  obtain ⟨q0, q1, q2, q3⟩ := q
  unfold addM subM
  simp only [MonD.mk.injEq]
  omega
 unfold monDiv
 rw [ha, hb, e, hq]; rfl
end Go.Proofs.YtgjkgkgieeoalaaGreat
namespace Go.Proofs.YtgjkgkgieeoalaaGreat
open Go.RowKit
def qT (n : Int) (m : Int × Int × Int) : TermD := ⟨ofD n, ⟨m.1.tmod 3, m.2.1.tmod 3, m.2.2.tmod 3, 0⟩⟩
def smQ (ns : List Int) (ms : List (Int × Int × Int)) : List TermD := ((ns.zip ms).take 4).map fun x => qT x.1 x.2
def madeQ (o : Int) (ns : List Int) (ms : List (Int × Int × Int)) : List TermD := (polMake o (smQ ns ms)).2
theorem qT_sm {n : Int} {m : Int × Int × Int} (hn : -128 ≤ n ∧ n ≤ 127) (hm : (0 ≤ m.1 ∧ m.1 ≤ 255) ∧ (0 ≤ m.2.1 ∧ m.2.1 ≤ 255) ∧ (0 ≤ m.2.2 ∧ m.2.2 ≤ 255)) : Ints 128 [qT n m] ∧ Low 3 [qT n m] := by
 have key : ∀ x : Int, 0 ≤ x → 0 ≤ x.tmod 3 ∧ x.tmod 3 ≤ 3 := fun x hx => by
  rw [Int.tmod_eq_emod_of_nonneg hx]; omega
 have k1 := key _ hm.1.1
 have k2 := key _ hm.2.1.1
 have k3 := key _ hm.2.2.1
 refine ⟨(Ints.one (monMay_low ?_)).le (by omega), fun s hs => ?_⟩
 ·simp only []
  omega
 ·simp only [List.mem_cons, List.not_mem_nil, or_false] at hs
  rw [hs]
  simp only [qT]
  omega
theorem smQ_sm {w : World} {A B : Option Addr} {c d : Nat} {ns : List Int} {ms : List (Int × Int × Int)} (h : RSm w A c B d ns ms) : Sm (smQ ns ms) := by
 have hb : ∀ x ∈ (ns.zip ms).take 4, (-128 ≤ x.1 ∧ x.1 ≤ 127) ∧ (0 ≤ x.2.1 ∧ x.2.1 ≤ 255) ∧ (0 ≤ x.2.2.1 ∧ x.2.2.1 ≤ 255) ∧ (0 ≤ x.2.2.2 ∧ x.2.2.2 ≤ 255) := fun x hx => by
  have hx := List.mem_of_mem_take hx
  have h1 := List.of_mem_zip (a := x.1) (b := x.2) hx
  exact ⟨h.nb _ h1.1, h.mb _ h1.2⟩
 have hl : ((ns.zip ms).take 4).length ≤ 10 := by rw [List.length_take]; omega
 unfold smQ
 generalize (ns.zip ms).take 4 = l at hb hl ⊢
 have key : Ints (128 * l.length) (l.map fun x => qT x.1 x.2) ∧ Low 3 (l.map fun x => qT x.1 x.2) := by
  clear hl
  induction l with
  | nil => exact ⟨Ints.nil, fun s hs => by cases hs⟩
  | cons x l ih =>
    obtain ⟨h1, h2⟩ := ih fun y hy => hb y (by simp [hy])
    obtain ⟨h3, h4⟩ := qT_sm (hb x (by simp)).1 (hb x (by simp)).2
    refine ⟨?_, h4.app h2⟩
    have := h3.app h1
    rw [List.length_cons, Nat.mul_add, Nat.add_comm (128 * l.length)]
    exact this
 exact ⟨key.1.le (by omega), key.2, by rw [List.length_map]; exact hl⟩
theorem madeQ_sm {o : Int} (ho : oOk o) {w : World} {A B : Option Addr} {c d : Nat} {ns : List Int} {ms : List (Int × Int × Int)} (h : RSm w A c B d ns ms) : SmP o (madeQ o ns ms) := ((smQ_sm h).make ho).1
theorem smQ_take {ns : List Int} {ms : List (Int × Int × Int)} {i : Nat} {n : Int} {m : Int × Int × Int} (hn : ns[i]? = some n) (hm : ms[i]? = some m) (hi : i < 4) : (smQ ns ms).take i ++ [qT n m] = (smQ ns ms).take (i + 1) := by
 have h : (smQ ns ms)[i]? = some (qT n m) := by
  unfold smQ
  rw [List.getElem?_map, List.getElem?_take, if_pos hi, List.getElem?_zip_eq_some (z := (n, m)) |>.2 ⟨hn, hm⟩]; rfl
 rw [List.take_add_one, h]; rfl
theorem smQ_end {ns : List Int} {ms : List (Int × Int × Int)} {i : Nat} (h : ¬ i < ns.length ∨ ¬ i < ms.length ∨ ¬ i < 4) : (smQ ns ms).take i = smQ ns ms := by
 refine List.take_of_length_le ?_
 unfold smQ
 rw [List.length_map, List.length_take, List.length_zip]
 omega
theorem law14_made (b0 : Nat) (order : Int) (A B : Option Addr) (c d : Nat) (ns : List Int) (ms : List (Int × Int × Int)) (w : World) (hb0 : b0 ≤ w.heap.size) (h : RSm w A c B d ns ms) :
    Calls Tryz.prog 38 #[.int .i64 order, .agg #[.slice A ns.length c, .slice B ms.length d]] w fun e w' => ∃ A' c', e = .returned (.slice A' (madeQ order ns ms).length c') ∧
     (madeQ order ns ms).length ≤ c' ∧ RPol w' b0 A' (madeQ order ns ms) ∧ Below w.heap.size w w' := by
 obtain ⟨D, hD⟩ : ∃ D, madeQ order ns ms = D := ⟨_, rfl⟩
 rw [hD]
 have HD := aa hD
 clear hD
 have HR := aa h
 have HB0 := aa hb0
 clear h hb0
 go_enter Tryz.func38, Tryz.ntmps38
 go_upto_region 2 with (fail)
 refine wp_gen (fun W => Below w.heap.size w W ∧ Bk W w.heap.size 83 #[.slice A ns.length c, .slice B ms.length d] ∧ OwnT W b0 (w.heap.size + 1) (.slice (some ⟨w.heap.size + 1, 0, none⟩) 0 0) []) ?_ ?_
 ·refine ⟨((ag _ _).alloc (ae _) _).alloc (by simp) _, (Bk.new_ _ _ _).al _, ?_⟩
  have := ownT_lit (w.alloc (Obj.cells #[.slice A ns.length c, .slice B ms.length d] 83)) b0 (w.heap.size + 1) (by simp)
  simpa using this
 intro W0 hW
 have HK := aa (af hW.out.1 hW.out.2.1)
 have HO := aa hW.out.2.2
 clear hW
 go_wp2_with fail
 go_loopw [5, 6] (fun v5 v6 wr => ∃ (i : Nat) (acc : List TermD), v6 = .int .i64 i ∧ i ≤ 4 ∧ acc.length = i ∧ Hd (acc = (smQ ns ms).take i) ∧ Hd (OwnT wr b0 (w.heap.size + 1) v5 acc) ∧ Hd (Below w.heap.size w wr ∧ Bk wr w.heap.size 83 #[.slice A ns.length c, .slice B ms.length d])) (fun _ v _ => 4 - (intOf v).toNat)
 case atStart => exact ⟨0, [], rfl, by omega, rfl, ⟨rfl⟩, HO, HK⟩
 case round =>
  clear HO HK
  obtain ⟨i, acc, rfl, hi, hfl, HFA, HO, HK⟩ := hrel
  obtain ⟨Av, cv, rfl, hcv, _, hrv⟩ := HO.out.reads
  have HRV := aa hrv
  have HLN := aa hfl
  obtain ⟨p0, p1⟩ := HK.out.2.two'
  clear hrv hfl
  by_cases h1 : i < ns.length
  ·have i1 : (i : Int) < ns.length := by omega
   by_cases h2 : i < ms.length
   ·have i2 : (i : Int) < ms.length := by omega
    by_cases h3 : i < 4
    ·have i3 : (i : Int) < 4 := by omega
     obtain ⟨n, hn⟩ : ∃ n, ns[i]? = some n := ⟨_, ai h1⟩
     obtain ⟨m, hm⟩ : ∃ m, ms[i]? = some m := ⟨_, ai h2⟩
     obtain ⟨ad, eA, hab, hca⟩ := (HR.out.n.below HK.out.1).2 (by omega)
     obtain ⟨bd, eB, hbb, hcb⟩ := (HR.out.m.below HK.out.1).2 (by omega)
     have q0 := hca i (.int .i8 n) (by rw [ints_get _ _ _ h1, List.getD_eq_getElem?_getD, hn]; rfl)
     obtain ⟨f0, f1, f2⟩ := flat3_get hm
     have q1 := hcb _ _ f0
     have q2 := hcb _ _ f1
     have q3 := hcb _ _ f2
     rw [add_pos _ _ 1 (by omega)] at q2
     rw [add_pos _ _ 2 (by omega)] at q3
     subst eA eB
     have HN := aa (af hn hm)
     have HFL : Hd (acc ++ [qT n m] = (smQ ns ms).take (i + 1)) := ⟨by rw [HFA.out]; exact smQ_take hn hm h3⟩
     have nb := HR.out.nb n (List.mem_of_getElem? hn)
     have mb := HR.out.mb m (List.mem_of_getElem? hm)
     have v0 : IntKind.i64.wrap n = n := by rw [IntKind.wrap_i64]; omega
     have v1 : IntKind.i64.wrap m.1 = m.1 := by rw [IntKind.wrap_i64]; omega
     have v2 : IntKind.i64.wrap m.2.1 = m.2.1 := by rw [IntKind.wrap_i64]; omega
     have v3 : IntKind.i64.wrap m.2.2 = m.2.2 := by rw [IntKind.wrap_i64]; omega
     have CO : Hd (∀ W, Hd (Below wr.heap.size wr W) → Calls Tryz.prog 46 #[.int .i64 (IntKind.i64.wrap n)] W fun e w' => ∃ x, e = .returned x ∧ RRat w' b0 x (ofD n) ∧ Below W.heap.size W w') := ⟨by
      rw [v0]
      exact fun W hB => rrat_Of b0 n W (ah HB0.out (ah HK.out.1.size hB.out.size)) (by omega) (by omega)⟩
     have HFL' : Hd (acc ++ [⟨ofD n, ⟨(IntKind.i64.wrap m.1).tmod 3, (IntKind.i64.wrap m.2.1).tmod 3, (IntKind.i64.wrap m.2.2).tmod 3, 0⟩⟩] = (smQ ns ms).take (i + 1)) := ⟨by rw [v1, v2, v3]; exact HFL.out⟩
     generalize ofD n = X at CO HFL'
     clear v0 v1 v2 v3 nb mb
     clear hn hm f0 f1 f2 hca hcb
     go_wp2_with fail
     have b1 : (ad.add i).block < w.heap.size + 1 := by rw [add_block]; omega
     have b2 : (bd.add (i * 3)).block < w.heap.size + 1 := by rw [add_block]; omega
     have SO := aa (fun W (hB : Below (w.heap.size + 1) wr W) => af (aa hB) (af ((hB.cell (p := ⟨w.heap.size, 0, none⟩) (Nat.lt_succ_self _)).trans p0) (af ((hB.cell (p := ⟨w.heap.size, 1, none⟩) (Nat.lt_succ_self _)).trans p1) (af ((hB.cell b1).trans q0) (af ((hB.cell b2).trans q1) (af ((hB.cell (p := ⟨(bd.add (i * 3)).block, (bd.add (i * 3)).off + 1, none⟩) b2).trans q2) ((hB.cell (p := ⟨(bd.add (i * 3)).block, (bd.add (i * 3)).off + 2, none⟩) b2).trans q3)))))))
     have HZ : Hd (w.heap.size + 1 ≤ wr.heap.size) := ⟨HK.out.2.lt⟩
     clear b1 b2
     go_region_held3 (fun w' => Hd (Below (w.heap.size + 1) wr w') ∧ w'.cell? ⟨w.heap.size, 0, none⟩ = some (.slice (some ad) ns.length c) ∧ w'.cell? ⟨w.heap.size, 1, none⟩ = some (.slice (some bd) ms.length d) ∧ w'.cell? (ad.add i) = some (.int .i8 n) ∧ w'.cell? (bd.add (i * 3)) = some (.int .u8 m.1) ∧ w'.cell? ⟨(bd.add (i * 3)).block, (bd.add (i * 3)).off + 1, none⟩ = some (.int .u8 m.2.1) ∧ w'.cell? ⟨(bd.add (i * 3)).block, (bd.add (i * 3)).off + 2, none⟩ = some (.int .u8 m.2.2))
      (first
       | with_reducible exact SO.out _ (ag _ _)
       | with_reducible exact SO.out _ (ag _ _).drew
       | with_reducible exact SO.out _ HB6.out
       | with_reducible exact SO.out _ (HB6.out.alloc HB6z.out _)
       | with_reducible exact SO.out _ AP.below
       | fail)
      (first
       | (go_at_call 46; with_reducible refine (CO.out wr.drew ⟨(ag _ _).drew⟩).mono ?_; rintro e w5 ⟨x, rfl, hx, hb⟩
          have hB5 : Below wr.heap.size wr w5 := (ag wr.heap.size wr).drew.trans hb
          have HB5 := aa hB5
          have hx2 := hx
          obtain ⟨TA, tc, TB, td, rfl, _, _, _, _⟩ := hx2
          have T1 := rpol_one (t := ⟨X, ⟨(IntKind.i64.wrap m.1).tmod 3, (IntKind.i64.wrap m.2.1).tmod 3, (IntKind.i64.wrap m.2.2).tmod 3, 0⟩⟩) (rterm_of hx ⟨(IntKind.i64.wrap m.1).tmod 3, (IntKind.i64.wrap m.2.1).tmod 3, (IntKind.i64.wrap m.2.2).tmod 3, 0⟩) 68
          dsimp only at T1
          obtain ⟨tn, htn⟩ : ∃ tn : TermD, tn = ⟨X, ⟨(IntKind.i64.wrap m.1).tmod 3, (IntKind.i64.wrap m.2.1).tmod 3, (IntKind.i64.wrap m.2.2).tmod 3, 0⟩⟩ := ⟨_, rfl⟩
          rw [← htn] at T1
          have HT1 := aa T1
          have HFL2 : Hd (acc ++ [tn] = (smQ ns ms).take (i + 1)) := ⟨by rw [htn]; exact HFL'.out⟩
          have XL : Hd (acc.length + [tn].length ≤ 1000000) := ⟨by have := HLN.out; simp; omega⟩
          have HB6 := aa (hB5.mono HZ.out)
          have HB6z : Hd (w.heap.size + 1 ≤ w5.heap.size) := ⟨ah HZ.out hB5.size⟩
          clear T1 htn)
       | (refine step_append_T (w0 := wr) (us := [tn]) (B := w.heap.size + 1) rfl _ _ 24 rfl Tryz.slTerms rfl rfl rfl (HO.out.up (hB5.alloc hB5.size _)) HT1.out (Nat.le_succ_of_le HB0.out) XL.out (HB6.out.alloc HB6z.out _) (ae _) (ah HZ.out (hB5.alloc hB5.size _).size) ?_; intro v' w8 AP))
     all_goals
      have HAP := aa AP
      have HK8 := aa (af (HK.out.1.trans (AP.below.mono (Nat.le_succ _))) (AP.bk (HK.out.2.up (hB5.alloc hB5.size _)) (Nat.lt_succ_self _)))
      have hl2 : (acc ++ [tn]).length = i + 1 := by rw [List.length_append, HLN.out]; rfl
      clear AP
      go_wp2_with fail
      go_roundw
      case measure => first | (simp [intOf]; done) | (simp [intOf]; omega)
      case rel => exact ⟨i + 1, _, by go_num, by omega, hl2, HFL2, ⟨HAP.out.own⟩, HK8⟩
    ·have HE : Hd (acc = smQ ns ms) := ⟨HFA.out.trans (smQ_end (.inr (.inr h3)))⟩
     have i3 : ¬ (i : Int) < 4 := by omega
     have HM : Hd ((polMake order acc).2 = D) := ⟨by rw [HE.out]; exact HD.out⟩
     have CM := aa (rpol_Make b0 order Av cv acc wr (ah HB0.out HK.out.1.size) HRV.out hcv (by have := HLN.out; omega) (by rw [HE.out]; exact (smQ_sm HR.out).ints.short (by decide) (by have := (smQ_sm HR.out).len; omega)))
     rw [HM.out] at CM
     go_wp2_with fail
     refine CM.out.mono ?_
     rintro e w6 ⟨A6, c6, rfl, hc6, hr6, hb6⟩
     have HB6 := aa (goes HK.out.1 hb6)
     have HR6 := aa hr6
     clear hb6 hr6
     go_wp2_with fail
     go_ret
     exact ⟨A6, c6, rfl, hc6, HR6.out, HB6.out⟩
   ·have HE : Hd (acc = smQ ns ms) := ⟨HFA.out.trans (smQ_end (.inr (.inl h2)))⟩
    have i2 : ¬ (i : Int) < ms.length := by omega
    have HM : Hd ((polMake order acc).2 = D) := ⟨by rw [HE.out]; exact HD.out⟩
    have CM := aa (rpol_Make b0 order Av cv acc wr (ah HB0.out HK.out.1.size) HRV.out hcv (by have := HLN.out; omega) (by rw [HE.out]; exact (smQ_sm HR.out).ints.short (by decide) (by have := (smQ_sm HR.out).len; omega)))
    rw [HM.out] at CM
    go_wp2_with fail
    refine CM.out.mono ?_
    rintro e w6 ⟨A6, c6, rfl, hc6, hr6, hb6⟩
    have HB6 := aa (goes HK.out.1 hb6)
    have HR6 := aa hr6
    clear hb6 hr6
    go_wp2_with fail
    go_ret
    exact ⟨A6, c6, rfl, hc6, HR6.out, HB6.out⟩
  ·have HE : Hd (acc = smQ ns ms) := ⟨HFA.out.trans (smQ_end (.inl h1))⟩
   have i1 : ¬ (i : Int) < ns.length := by omega
   have HM : Hd ((polMake order acc).2 = D) := ⟨by rw [HE.out]; exact HD.out⟩
   have CM := aa (rpol_Make b0 order Av cv acc wr (ah HB0.out HK.out.1.size) HRV.out hcv (by have := HLN.out; omega) (by rw [HE.out]; exact (smQ_sm HR.out).ints.short (by decide) (by have := (smQ_sm HR.out).len; omega)))
   rw [HM.out] at CM
   go_wp2_with fail
   refine CM.out.mono ?_
   rintro e w6 ⟨A6, c6, rfl, hc6, hr6, hb6⟩
   have HB6 := aa (goes HK.out.1 hb6)
   have HR6 := aa hr6
   clear hb6 hr6
   go_wp2_with fail
   go_ret
   exact ⟨A6, c6, rfl, hc6, HR6.out, HB6.out⟩
end Go.Proofs.YtgjkgkgieeoalaaGreat
namespace Go.Proofs.YtgjkgkgieeoalaaGreat
structure RaiseOk (o : Int) (m by_ : MonD) (s : Int) (t : TermD) (p X : List TermD) : Prop where
 cp : CP o X
 len : X.length = (t :: p).length
 lit : ∀ x ∈ X, Lit x.c
 lin : ∀ f, lin f X = ((s : Rat) * (qv t.c)⁻¹) * lin (fun n => f (addM n by_)) (t :: p)
 head : ∃ x X', X = x :: X' ∧ x.m = m ∧ qv x.c = (s : Rat)
structure CrossOk (o : Int) (m b1 b2 : MonD) (t u : TermD) (p q X Y Z : List TermD) : Prop where
 eq : crossD o (t :: p) (u :: q) = (0, Z)
 cp : CP o Z
 x : RaiseOk o m b1 1 t p X
 y : RaiseOk o m b2 (-1) u q Y
 sum : ∀ f, lin f Z = lin f X + lin f Y
end Go.Proofs.YtgjkgkgieeoalaaGreat
