/- Parts of the proof, joined: each theorem says what it shows. -/
import Derived.Test.YtgjkgkgieeoalaaGreatA25
import Derived.Test.YtgjkgkgieeoalaaGreatA30
import Derived.Test.YtgjkgkgieeoalaaGreatA27
import Derived.Test.YtgjkgkgieeoalaaGreatA29
set_option linter.unusedVariables false
set_option linter.unusedSimpArgs false
set_option maxHeartbeats 24000000
set_option maxRecDepth 100000
namespace Go.Proofs.YtgjkgkgieeoalaaGreat
open Go.ChangeShapes Go.WideShapes Go.RowKit
theorem Tryz.slI8 : Tryz.prog.underlying 56 = some (.slice 142) := by kernel_rfl
theorem Tryz.slM3 : Tryz.prog.underlying 57 = some (.slice 76) := by kernel_rfl
theorem Tryz.arM3 : Tryz.prog.underlying 76 = some (.array 3 5) := by kernel_rfl
theorem Tryz.undI8 : Tryz.prog.underlying 142 = some (.int .i8) := by kernel_rfl
theorem Tryz.undU8 : Tryz.prog.underlying 5 = some (.int .u8) := by kernel_rfl
theorem Tryz.cuI8 : Tryz.prog.cellsOf 142 = 1 := by kernel_rfl
theorem Tryz.cuU8 : Tryz.prog.cellsOf 5 = 1 := by kernel_rfl
theorem Tryz.cuM3 : Tryz.prog.cellsOf 76 = 3 := by kernel_rfl
def trip (m : Int × Int × Int) : List Value := [.int .u8 m.1, .int .u8 m.2.1, .int .u8 m.2.2]
theorem flat3_app (l m : List (Int × Int × Int)) : flat3 (l ++ m) = flat3 l ++ flat3 m := by simp [flat3]
theorem flat3_len (l : List (Int × Int × Int)) : (flat3 l).length = l.length * 3 := by
 induction l with
 | nil => rfl
 | cons x l ih => rw [show flat3 (x :: l) = trip x ++ flat3 l from rfl, List.length_append, ih, List.length_cons]; show 3 + _ = _; omega
section
variable {H : Type} {enc : TypeId × Value → H} {w : World} {base : Nat} {spare : Nat → Bool} {held : Bool} {fuel : Nat} {cs : List Value} {x : DataW H × List MemPlace}
theorem rd_row {t e : TypeId} {k : IntKind} (ht : Tryz.prog.underlying t = some (.slice e)) (he : Tryz.prog.underlying e = some (.int k)) (hc1 : Tryz.prog.cellsOf e = 1)
    (h : DataW.trod enc Tryz.prog w base spare held fuel t cs = some x) : ∃ A l c, cs = [.slice A l.length c] ∧ l.length ≤ c ∧ c ≤ maxLen ∧ Rd w w.heap.size 1 A l.length (ints k l) ∧ ∀ n ∈ l, (Lit.int k n).wf = true := by
 rcases open_ints ht he hc1 h with ⟨e, _⟩ | ⟨a, len, cap, zs, e, _, hl, hm, hz, _, hc, hw⟩
 ·exact ⟨none, [], 0, e, Nat.le_refl _, by unfold maxLen; omega, Rd.nil, fun n hn => by cases hn⟩
 ·have hle : len ≤ zs.length := by rw [hz]; split <;> omega
  have hlen : (zs.take len).length = len := by rw [List.length_take]; omega
  refine ⟨some a, zs.take len, cap, by rw [hlen]; exact e, by rw [hlen]; exact hl, hm, ⟨by rw [ints_len, Nat.mul_one], fun hn => ⟨a, rfl, ?_, fun j u hu => ?_⟩⟩, fun n hn => hw n (List.mem_of_mem_take hn)⟩
  ·have := World.block_lt_of_cell? w _ (hc 0 (by omega))
   rwa [add_block] at this
  ·have hj : j < len := by
     have : j < (ints k (zs.take len)).length := by
      rcases Nat.lt_or_ge j (ints k (zs.take len)).length with h1 | h1
      ·exact h1
      ·rw [List.getElem?_eq_none h1] at hu; cases hu
     rwa [ints_len, hlen] at this
   rw [ints_get _ _ _ (by rw [hlen]; exact hj)] at hu
   injection hu with hu
   rw [← hu, hc j (by omega)]
   simp [List.getD_eq_getElem?_getD, hj]
theorem rd_m3 (h : DataW.trod enc Tryz.prog w base spare held fuel 76 cs = some x) : ∃ m : Int × Int × Int, cs = trip m ∧ (0 ≤ m.1 ∧ m.1 ≤ 255) ∧ (0 ≤ m.2.1 ∧ m.2.1 ≤ 255) ∧ (0 ≤ m.2.2 ∧ m.2.2 ≤ 255) := by
 obtain ⟨xs, n, _, _, hl, hx, hi⟩ := DataW.trod_array Tryz.arM3 h
 rw [Tryz.cuM3] at hl
 have get : ∀ i, i < 3 → ∃ k : Int, (cs.drop i).take 1 = [.int .u8 k] ∧ 0 ≤ k ∧ k ≤ 255 := fun i h4 => by
  have h1 := hi i h4
  rw [Tryz.cuU8, Nat.mul_one, List.getElem?_eq_getElem (by omega)] at h1
  obtain ⟨k, e, _, hw⟩ := DataW.trod_int Tryz.undU8 h1
  exact ⟨k, e, bounds_u8 hw⟩
 match cs, hl with
 | [v0, v1, v2], _ =>
   obtain ⟨a0, e0, b0⟩ := get 0 (by omega)
   obtain ⟨a1, e1, b1⟩ := get 1 (by omega)
   obtain ⟨a2, e2, b2⟩ := get 2 (by omega)
   simp only [List.drop_zero, List.drop_succ_cons, List.take_succ_cons, List.take_zero, List.cons.injEq, and_true] at e0 e1 e2
   subst e0 e1 e2
   exact ⟨(a0, a1, a2), rfl, b0, b1, b2⟩
theorem rows3_up {a : Addr} {T : Nat → Int × Int × Int} : ∀ (n : Nat), (∀ i, i < n → ∀ k u, (trip (T i))[k]? = some u → w.cell? (a.add (i * 3 + k)) = some u) →
    ∀ j u, (flat3 ((List.range n).map T))[j]? = some u → w.cell? (a.add j) = some u
 | 0, _ => fun j u h => by simp [flat3] at h
 | n + 1, h => by
   have h2 := rows3_up n (fun i hi => h i (by omega))
   have h4 := h n (by omega)
   have hlen := flat3_len ((List.range n).map T)
   rw [List.length_map, List.length_range] at hlen
   rw [List.range_succ, List.map_append, flat3_app]
   intro j u hu
   rcases Nat.lt_or_ge j (n * 3) with hj | hj
   ·rw [List.getElem?_append_left (by omega)] at hu
    exact h2 j u hu
   ·rw [List.getElem?_append_right (by omega), hlen] at hu
    have := h4 (j - n * 3) u hu
    rwa [show n * 3 + (j - n * 3) = j by omega] at this
theorem rd_m3s (h : DataW.trod enc Tryz.prog w base spare held fuel 57 cs = some x) :
    ∃ B ms d, cs = [.slice B ms.length d] ∧ ms.length ≤ d ∧ Rd w w.heap.size 3 B ms.length (flat3 ms) ∧ ∀ m ∈ ms, (0 ≤ m.1 ∧ m.1 ≤ 255) ∧ (0 ≤ m.2.1 ∧ m.2.1 ≤ 255) ∧ (0 ≤ m.2.2 ∧ m.2.2 ≤ 255) := by
 rcases Deep.open_slice Tryz.slM3 h with ⟨e, _⟩ | ⟨a, len, cap, m, n, D, Pl, e, _, hl, hm, hmm, _, hx⟩
 ·exact ⟨none, [], 0, e, Nat.le_refl _, ⟨rfl, fun h => by cases h⟩, fun m hm => by cases hm⟩
 ·have hle : len ≤ m := by rw [hmm]; split <;> omega
  have hel : ∀ i, ∃ p : Int × Int × Int, i < len → (∀ k u, (trip p)[k]? = some u → w.cell? (a.add (i * 3 + k)) = some u) ∧ (0 ≤ p.1 ∧ p.1 ≤ 255) ∧ (0 ≤ p.2.1 ∧ p.2.1 ≤ 255) ∧ (0 ≤ p.2.2 ∧ p.2.2 ≤ 255) := fun i => by
   by_cases hi : i < len
   ·obtain ⟨cs', h1, h2⟩ := hx i (by omega)
    rw [Tryz.cuM3] at h1
    obtain ⟨s, rfl, hs⟩ := rd_m3 h2
    obtain ⟨_, h3, h4⟩ := World.cells?_some h1
    refine ⟨s, fun _ => ⟨fun k u hu => ?_, hs⟩⟩
    have hk : k < 3 := by
     rcases Nat.lt_or_ge k (trip s).length with h5 | h5
     ·exact h5
     ·rw [List.getElem?_eq_none h5] at hu; cases hu
    rw [← add_add, h4 k hk]; exact hu
   ·exact ⟨(0, 0, 0), fun h => absurd h hi⟩
  obtain ⟨F, hF⟩ := Classical.axiomOfChoice hel
  have h2 := rows3_up (w := w) (a := a) (T := F) len (fun i hi => (hF i hi).1)
  have hlen : ((List.range len).map F).length = len := by simp
  refine ⟨some a, (List.range len).map F, cap, by rw [hlen]; exact e, by rw [hlen]; exact hl, ⟨flat3_len _, fun hn => ⟨a, rfl, ?_, h2⟩⟩, fun s hs => ?_⟩
  ·rw [hlen] at hn
   have := World.block_lt_of_cell? w _ ((hF 0 hn).1 0 _ rfl)
   rwa [add_block] at this
  ·obtain ⟨i, hi, rfl⟩ := List.mem_map.1 hs
   exact (hF i (List.mem_range.1 hi)).2
end
def smE (ns : List Int) (ms : List (Int × Int × Int)) : List TermD := ((ns.zip ms).take 5).map fun x => smT x.1 x.2
def madeE (o : Int) (ns : List Int) (ms : List (Int × Int × Int)) : List TermD := (polMake o (smE ns ms)).2
theorem smE_eq (ns : List Int) (ms : List (Int × Int × Int)) : smE ns ms = (smL ns ms).take 5 := by
 unfold smE smL
 rw [← List.map_take, List.take_take]
 rfl
theorem Sm.take {l : List TermD} (h : Sm l) (k : Nat) : Sm (l.take k) := by
 refine ⟨⟨fun t ht => h.ints.int t (List.mem_of_mem_take ht), fun t ht => h.ints.good t (List.mem_of_mem_take ht), ?_⟩, fun t ht => h.low t (List.mem_of_mem_take ht), by rw [List.length_take]; have := h.len; omega⟩
 have h1 := mass_app (l.take k) (l.drop k)
 rw [List.take_append_drop] at h1
 have := h.ints.mass
 omega
theorem smE_sm {w : World} {A B : Option Addr} {c d : Nat} {ns : List Int} {ms : List (Int × Int × Int)} (h : RSm w A c B d ns ms) : Sm (smE ns ms) := by rw [smE_eq]; exact (smL_sm h).take 5
theorem madeE_sm {o : Int} (ho : oOk o) {w : World} {A B : Option Addr} {c d : Nat} {ns : List Int} {ms : List (Int × Int × Int)} (h : RSm w A c B d ns ms) : SmP o (madeE o ns ms) := ((smE_sm h).make ho).1
theorem smE_take {ns : List Int} {ms : List (Int × Int × Int)} {i : Nat} {n : Int} {m : Int × Int × Int} (hn : ns[i]? = some n) (hm : ms[i]? = some m) (hi : i < 5) : (smE ns ms).take i ++ [smT n m] = (smE ns ms).take (i + 1) := by
 have h : (smE ns ms)[i]? = some (smT n m) := by
  unfold smE
  rw [List.getElem?_map, List.getElem?_take, if_pos hi, List.getElem?_zip_eq_some (z := (n, m)) |>.2 ⟨hn, hm⟩]; rfl
 rw [List.take_add_one, h]; rfl
theorem smE_end {ns : List Int} {ms : List (Int × Int × Int)} {i : Nat} (h : ¬ i < ns.length ∨ ¬ i < ms.length ∨ ¬ i < 5) : (smE ns ms).take i = smE ns ms := by
 refine List.take_of_length_le ?_
 unfold smE
 rw [List.length_map, List.length_take, List.length_zip]
 omega
theorem Tryz.fldSmall_13 : fieldsAt (Tryz.prog.underlying 59) = [(56, 0), (57, 1)] := by kernel_rfl
theorem Tryz.cuSmall_13 : Tryz.prog.cellsOf 59 = 2 := by kernel_rfl
theorem Tryz.cuSlI8_13 : Tryz.prog.cellsOf 56 = 1 := by kernel_rfl
theorem Tryz.cuSlM3_13 : Tryz.prog.cellsOf 57 = 1 := by kernel_rfl
section
variable {H : Type} {enc : TypeId × Value → H} {w : World} {base : Nat} {spare : Nat → Bool} {held : Bool} {fuel : Nat} {cs : List Value} {x : DataW H × List MemPlace}
theorem rd_small_13 (h : DataW.trod enc Tryz.prog w base spare held fuel 59 cs = some x) : ∃ A ns c B ms d, cs = [.slice A ns.length c, .slice B ms.length d] ∧ RSm w A c B d ns ms := by
 obtain ⟨f, g, e, t1, o1, t2, o2⟩ := two_of Tryz.fldSmall_13
 obtain ⟨y0, y1, n, _, hl, h0, h1⟩ := trod_struct2 e h
 rw [Tryz.cuSmall_13] at hl
 rw [t1, o1, Tryz.cuSlI8_13] at h0
 rw [t2, o2, Tryz.cuSlM3_13] at h1
 match cs, hl with
 | [v0, v1], _ =>
   simp only [List.drop_zero, List.drop_succ_cons, List.take_succ_cons, List.take_zero] at h0 h1
   obtain ⟨A, ns, c, e0, l1, _, r1, b1⟩ := rd_row Tryz.slI8 Tryz.undI8 Tryz.cuI8 h0
   obtain ⟨B, ms, d, e1, l2, r2, b2⟩ := rd_m3s h1
   simp only [List.cons.injEq, and_true] at e0 e1
   subst e0 e1
   exact ⟨A, ns, c, B, ms, d, rfl, r1, r2, l1, l2, fun n hn => bounds_i8 (b1 n hn), b2⟩
end
end Go.Proofs.YtgjkgkgieeoalaaGreat
namespace Go.Proofs.YtgjkgkgieeoalaaGreat
theorem lin_van {g : MonD → Rat} {p : List TermD} (h : ∀ s ∈ p, g s.m = 0) : lin g p = 0 := by
 induction p with
 | nil => rfl
 | cons t p ih =>
   simp only [lin]
   rw [h t (by simp), ih fun s hs => h s (by simp [hs])]
   grind
theorem mulM_lt {o : Int} (ho : oOk o) {a b c : MonD} (ha : monMay a = true) (hb : monMay b = true) (hc : monMay c = true) (hac : monMay (addM a c) = true) (hbc : monMay (addM b c) = true) (h : 0 < monCmp o a b) : monCmp o (addM b c) (addM a c) < 0 := by
 rw [monCmp_mul ho hb ha hc hbc hac, monCmp_anti ho ha hb]
 omega
theorem mulD_small {r s : RatD} (hr : GoodR r) (hs : GoodR s) (h1 : val r.num * val s.num < 18446744073709551616 ^ 8) (h2 : val r.den * val s.den < 18446744073709551616 ^ 8) :
    (mulD r s).1 = 0 ∧ GoodR (mulD r s).2 ∧ qv (mulD r s).2 = qv r * qv s ∧ val (mulD r s).2.num ≤ val r.num * val s.num ∧ val (mulD r s).2.den ≤ val r.den * val s.den := by
 have l1 := limbs_len.2 h1
 have l2 := limbs_len.2 h2
 have hb : isBig [limbs (val r.num * val s.num), limbs (val r.den * val s.den)] = false := isBig_no fun x hx => by
  simp only [List.mem_cons, List.not_mem_nil, or_false] at hx
  rcases hx with rfl | rfl
  ·exact l1
  ·exact l2
 have hd : val r.den * val s.den ≠ 0 := Nat.mul_ne_zero hr.den hs.den
 have e : mulD r s = makeD (r.neg != s.neg) (limbs (val r.num * val s.num)) (limbs (val r.den * val s.den)) := by
  unfold mulD
  rw [hr.may, hs.may, if_neg (by simp), hb, if_neg (by simp)]
 rcases mulD_q hr hs with h | ⟨h, hf⟩
 ·rw [e, makeD_q _ _ _ hd l1 l2] at h
  cases h
 ·rw [h]
  refine ⟨rfl, ofQ_good hf, qv_ofQ _, ?_⟩
  rw [e, makeD_q _ _ _ hd l1 l2, ofQ_mk _ _ _ hd] at h
  have h' := congrArg Prod.snd h
  simp only at h'
  rw [← h']
  simp only [val_limbs]
  exact ⟨Nat.div_le_self _ _, Nat.div_le_self _ _⟩
theorem timesL_map {t : TermD} : ∀ {p : List TermD}, (∀ s ∈ p, (mulD s.c t.c).1 = 0 ∧ monMul s.m t.m = (0, addM s.m t.m)) → timesL t p = (0, p.map fun s => mulT s t)
 | [], _ => rfl
 | s :: r, h => by
   have ih := timesL_map (t := t) (p := r) fun x hx => h x (by simp [hx])
   obtain ⟨h1, h2⟩ := h s (by simp)
   unfold timesL
   rw [ih, h1, h2]
   simp [mulT]
theorem monMul_zero {m : MonD} (h : monMay m = true) : monMul m zeroM = (0, addM m zeroM) := by
 unfold monMul
 rw [h, monMay_zero, addM_zero, h]; rfl
def Lit (r : RatD) : Prop := GoodR r ∧ val r.num < 18446744073709551616 ∧ val r.den < 18446744073709551616
theorem mulD_lit {r s : RatD} (hr : Lit r) (hs : Lit s) : (mulD r s).1 = 0 ∧ GoodR (mulD r s).2 ∧ qv (mulD r s).2 = qv r * qv s ∧ val (mulD r s).2.num ≤ val r.num * val s.num ∧ val (mulD r s).2.den ≤ val r.den * val s.den := by
 obtain ⟨g, a, b⟩ := hr
 obtain ⟨g', a', b'⟩ := hs
 have key : ∀ x y : Nat, x < 18446744073709551616 → y < 18446744073709551616 → x * y < 18446744073709551616 ^ 8 := fun x y hx hy =>
  Nat.lt_of_lt_of_le (Nat.mul_lt_mul_of_le_of_lt (Nat.le_of_lt hx) hy (by decide)) (by decide)
 exact mulD_small g g' (key _ _ a a') (key _ _ b b')
theorem mulT_zm (s : TermD) (k : RatD) : (mulT s ⟨k, zeroM⟩).m = s.m := by show addM s.m zeroM = s.m; exact addM_zero _
structure MonicOk (o : Int) (p m : List TermD) (t u : TermD) : Prop where
 monic : polMonic o p = (0, m)
 back : polTimes o m ⟨t.c, zeroM⟩ = (0, p)
 again : polMonic o m = (0, m)
 first : u.c = ofD 1
structure CP (o : Int) (p : List TermD) : Prop where
 canon : Canon o p
 len : p.length ≤ 60
theorem CP.may {o : Int} {p : List TermD} (h : CP o p) : polMay o p = true := canon_may h.canon h.len
theorem CP.ord {o : Int} {p : List TermD} (h : CP o p) : oOk o := h.canon.sta.ord
theorem CP.nil {o : Int} (h : oOk o) : CP o [] := ⟨canon_nil h, by simp⟩
theorem Canon.tl {o : Int} {t : TermD} {p : List TermD} (h : Canon o (t :: p)) : Canon o p :=
 ⟨⟨h.sta.ord, fun s hs => h.sta.good s (by simp [hs]), (List.pairwise_cons.1 h.sta.fall).2⟩, h.good.tl, fun s hs => h.nz s (by simp [hs])⟩
theorem CP.tl {o : Int} {t : TermD} {p : List TermD} (h : CP o (t :: p)) : CP o p := ⟨h.canon.tl, by have := h.len; simp only [List.length_cons] at this; omega⟩
theorem CP.below {o : Int} {t : TermD} {p : List TermD} (h : CP o (t :: p)) : ∀ s ∈ p, 0 < monCmp o t.m s.m := (List.pairwise_cons.1 h.canon.sta.fall).1
theorem CP.ne {o : Int} {p : List TermD} (h : CP o p) {t : TermD} (ht : t ∈ p) : qv t.c ≠ 0 := (h.canon.good t ht).ne (h.canon.nz t ht)
theorem CP.eq {o : Int} {p q : List TermD} (h : CP o p) (h' : CP o q) (e : ∀ f, lin f p = lin f q) : p = q := canon_ext h.canon h'.canon e
theorem SmP.cp {o : Int} {p : List TermD} (h : SmP o p) : CP o p := ⟨h.pol.canon, h.pol.len⟩
theorem anyOdd_good {ts : List TermD} (h : GoodP ts) : anyOdd ts = false := by
 unfold anyOdd
 rw [List.any_eq_false]
 intro t ht
 rw [(h t ht).right]
 simp
theorem flat_good {o : Int} : ∀ {ps : List (List TermD)}, (∀ p ∈ ps, CP o p) → GoodP ps.flatten
 | [], _ => .nil
 | p :: ps, h => by rw [List.flatten_cons]; exact (h p (by simp)).canon.good.app (flat_good fun q hq => h q (by simp [hq]))
theorem polAdd_make {o : Int} {ps : List (List TermD)} (h : ∀ p ∈ ps, CP o p) : polAdd o ps = polMake o ps.flatten := polAdd_int fun p hp => ⟨(h p hp).canon, (h p hp).len⟩
theorem polAdd_good {o : Int} {ps : List (List TermD)} (h : ∀ p ∈ ps, CP o p) (h0 : (polAdd o ps).1 = 0) : CP o (polAdd o ps).2 ∧ ∀ f, lin f (polAdd o ps).2 = lin f ps.flatten := by
 rw [polAdd_make h] at h0 ⊢
 obtain ⟨a1, a2, _, a4⟩ := polMake_ok (flat_good h).u h0
 exact ⟨⟨a1, a2⟩, a4⟩
theorem nz_of {t : TermD} (h : GoodR t.c) (h0 : qv t.c ≠ 0) : nz t = true := by
 unfold nz
 rw [decide_eq_false fun e => h0 (h.nil_iff.1 e)]; rfl
theorem nz_len {t : TermD} (h : nz t = true) : ¬ t.c.num.length = 0 := by unfold nz at h; simpa using h
theorem monMul_of {a b : MonD} (ha : monMay a = true) (hb : monMay b = true) (h : monMay (addM a b) = true) : monMul a b = (0, addM a b) := by
 unfold monMul; rw [ha, hb, h]; rfl
theorem monMul_may {a b : MonD} (h : (monMul a b).1 = 0) : monMay (addM a b) = true := by
 unfold monMul at h
 split at h
 ·cases h
 ·split at h
  ·cases h
  ·rename_i h1; simpa using h1
structure TimesOk (s t : TermD) : Prop where
 good : GoodT (mulT s t)
 val : qv (mulT s t).c = qv s.c * qv t.c
 may : monMay (addM s.m t.m) = true
theorem timesOk {s t : TermD} (hs : GoodT s) (ht : GoodT t) (h1 : (mulD s.c t.c).1 = 0) (h2 : (monMul s.m t.m).1 = 0) : TimesOk s t := by
 have hm := monMul_may h2
 rcases mulD_q hs.c ht.c with e | ⟨e, hf⟩
 ·rw [e] at h1; cases h1
 ·exact ⟨⟨by show GoodR (mulD s.c t.c).2; rw [e]; exact ofQ_good hf, hm⟩, by show qv (mulD s.c t.c).2 = _; rw [e]; exact qv_ofQ _, hm⟩
theorem timesL_good {t : TermD} (ht : GoodT t) : ∀ {p : List TermD}, GoodP p → (timesL t p).1 = 0 → (timesL t p).2 = (p.map fun s => mulT s t) ∧ ∀ s ∈ p, TimesOk s t
 | [], _, _ => ⟨rfl, fun s h => by cases h⟩
 | s :: r, hp, h => by
   rw [timesL_cons] at h ⊢
   by_cases h1 : (mulD s.c t.c).1 = 0
   ·rw [if_neg (by simpa using h1)] at h ⊢
    by_cases h2 : (monMul s.m t.m).1 = 0
    ·rw [if_neg (by simpa using h2)] at h ⊢
     by_cases h3 : (timesL t r).1 = 0
     ·rw [if_neg (by simpa using h3)]
      obtain ⟨a1, a2⟩ := timesL_good ht hp.tl h3
      have hk := timesOk hp.hd ht h1 h2
      refine ⟨?_, fun x hx => ?_⟩
      ·rw [List.map_cons, a1, monMul_of hp.hd.m ht.m hk.may]; rfl
      ·rcases List.mem_cons.1 hx with rfl | hx
       ·exact hk
       ·exact a2 x hx
     ·rw [if_pos (by simpa using h3)] at h; exact absurd h h3
    ·rw [if_pos (by simpa using h2)] at h; exact absurd h h2
   ·rw [if_pos (by simpa using h1)] at h; exact absurd h h1
theorem lin_timesM (f : MonD → Rat) {t : TermD} : ∀ {p : List TermD}, (∀ s ∈ p, TimesOk s t) → lin f (p.map fun s => mulT s t) = qv t.c * lin (fun m => f (addM m t.m)) p
 | [], _ => by simp only [List.map_nil, lin]; grind
 | s :: p, h => by
   simp only [List.map_cons, lin]
   rw [lin_timesM f fun x hx => h x (by simp [hx]), (h s (by simp)).val]
   show qv s.c * qv t.c * f (addM s.m t.m) + _ = _
   grind
theorem canon_times {o : Int} {t : TermD} {p : List TermD} (hp : Canon o p) (ht : GoodT t) (hz : nz t = true) (h : ∀ s ∈ p, TimesOk s t) : Canon o (p.map fun s => mulT s t) := by
 have hmem : ∀ x ∈ p.map (fun s => mulT s t), ∃ s ∈ p, mulT s t = x := fun x hx => List.mem_map.1 hx
 refine ⟨⟨hp.sta.ord, fun x hx => ?_, ?_⟩, fun x hx => ?_, fun x hx => ?_⟩
 ·obtain ⟨s, hs, rfl⟩ := hmem x hx; exact (h s hs).good.m
 ·unfold Fall
  rw [List.pairwise_map]
  refine List.Pairwise.imp_of_mem ?_ hp.sta.fall
  intro a b ha hb hab
  show 0 < monCmp o (addM a.m t.m) (addM b.m t.m)
  rwa [monCmp_mul hp.sta.ord (hp.sta.good a ha) (hp.sta.good b hb) ht.m (h a ha).may (h b hb).may]
 ·obtain ⟨s, hs, rfl⟩ := hmem x hx; exact (h s hs).good
 ·obtain ⟨s, hs, rfl⟩ := hmem x hx
  refine nz_of (h s hs).good.c ?_
  rw [(h s hs).val]
  intro e
  rcases Rat.mul_eq_zero.1 e with e | e
  ·exact (hp.good s hs).ne (hp.nz s hs) e
  ·exact ht.ne hz e
theorem polTimes_timesL {o : Int} {t : TermD} {p : List TermD} (hp : CP o p) (ht : GoodT t) (hz : nz t = true) : polTimes o p t = timesL t p := by
 unfold polTimes
 rw [hp.may, ht.right, if_neg (by simp), if_neg (nz_len hz)]
theorem polTimes_good {o : Int} {t : TermD} {p : List TermD} (hp : CP o p) (ht : GoodT t) (hz : nz t = true) (h0 : (polTimes o p t).1 = 0) :
    CP o (polTimes o p t).2 ∧ (∀ f, lin f (polTimes o p t).2 = qv t.c * lin (fun m => f (addM m t.m)) p) ∧ Fits p t.m := by
 rw [polTimes_timesL hp ht hz] at h0 ⊢
 obtain ⟨a1, a2⟩ := timesL_good ht hp.canon.good h0
 rw [a1]
 exact ⟨⟨canon_times hp.canon ht hz a2, by rw [List.length_map]; exact hp.len⟩, fun f => lin_timesM f a2, fun s hs => (a2 s hs).may⟩
def linP (f : MonD → Rat) (p q : List TermD) : Rat := lin (fun m' => lin (fun m => f (addM m m')) p) q
theorem monDiv_true {a b q : MonD} (h : monDiv a b = (true, q)) : monMay a = true ∧ monMay b = true ∧ monMay q = true ∧ addM b q = a := by
 unfold monDiv at h
 split at h
 ·cases h
 ·rename_i h1
  split at h
  ·cases h
  ·rename_i h2
   simp only [Prod.mk.injEq, true_and] at h
   subst h
   have h3 : monMay a = true ∧ monMay b = true := by simpa using h1
   refine ⟨h3.1, h3.2, by simpa using h2, ?_⟩
   obtain ⟨a0, a1, a2, a3⟩ := a
   unfold addM subM
   simp only [MonD.mk.injEq]
   omega
theorem monDiv_of {a b q : MonD} (ha : monMay a = true) (hb : monMay b = true) (hq : monMay q = true) (h : addM b q = a) : monDiv a b = (true, q) := by
 have e : subM a b = q := by
  subst h
  obtain ⟨q0, q1, q2, q3⟩ := q
  unfold addM subM
  simp only [MonD.mk.injEq]
  omega
 unfold monDiv
 rw [ha, hb, e, hq]; rfl
end Go.Proofs.YtgjkgkgieeoalaaGreat
namespace Go.Proofs.YtgjkgkgieeoalaaGreat
open Go.RowKit
def maxM (a b : MonD) : MonD := ⟨max a.x0 b.x0, max a.x1 b.x1, max a.x2 b.x2, max a.x3 b.x3⟩
def monLcm (a b : MonD) : MonD := if (monMay a && monMay b) = false then zeroM else maxM a b
theorem lcm_1 (x y : Int) (w : World) : Calls Tryz.prog 167 #[.int .i64 x, .int .i64 y] w fun e w' => e = .returned (.int .i64 (max x y)) ∧ w = w' := by
 go_enter Tryz.func167, Tryz.ntmps167
 go_wp2_with fail
 go_ret
 exact ⟨rfl, rfl⟩
theorem zip_lcm (a b z : MonD) (hz : z = ⟨max a.x0 b.x0, max a.x1 b.x1, max a.x2 b.x2, max a.x3 b.x3⟩) (w : World) (hma : monMay a = true) (hmb : monMay b = true) :
    Calls Tryz.prog 162 #[.agg #[.int .i64 a.x0, .int .i64 a.x1, .int .i64 a.x2, .int .i64 a.x3], .agg #[.int .i64 b.x0, .int .i64 b.x1, .int .i64 b.x2, .int .i64 b.x3], .func (.func 167) #[] #[]] w fun e w' => e = .returned (.agg #[.int .i64 (z).x0, .int .i64 (z).x1, .int .i64 (z).x2, .int .i64 (z).x3]) ∧ Blw w.heap.size w w' := by
 obtain ⟨ra0, ra1, ra2, ra3⟩ := monMay_of hma
 obtain ⟨rb0, rb1, rb2, rb3⟩ := monMay_of hmb
 have F0 := Hd.mk (fun W => lcm_1 a.x0 b.x0 W)
 have F1 := Hd.mk (fun W => lcm_1 a.x1 b.x1 W)
 have F2 := Hd.mk (fun W => lcm_1 a.x2 b.x2 W)
 have F3 := Hd.mk (fun W => lcm_1 a.x3 b.x3 W)
 have z0 : max a.x0 b.x0 = z.x0 := by rw [hz]
 have z1 : max a.x1 b.x1 = z.x1 := by rw [hz]
 have z2 : max a.x2 b.x2 = z.x2 := by rw [hz]
 have z3 : max a.x3 b.x3 = z.x3 := by rw [hz]
 rw [z0] at F0; rw [z1] at F1; rw [z2] at F2; rw [z3] at F3
 clear hz z0 z1 z2 z3 ra0 ra1 ra2 ra3 rb0 rb1 rb2 rb3 hma hmb
 go_enter Tryz.func162, Tryz.ntmps162
 go_upto_region 1 with (fail)
 refine wp_gen (fun W => ∃ g3, g3 = w.heap.size + 1 + 1 ∧ Bm2 w.heap.size w.heap.size (w.heap.size + 1) w W a b ∧ Bk W g3 66 #[.int .i64 (part z 0).x0, .int .i64 (part z 0).x1, .int .i64 (part z 0).x2, .int .i64 (part z 0).x3]) ⟨_, rfl, (Bm2.mk2 w a b).up ((Blw.refl _ _).alloc (Nat.le_refl _) _), by
  have := Bk.new_ ((w.alloc (Obj.cells #[.int .i64 a.x0, .int .i64 a.x1, .int .i64 a.x2, .int .i64 a.x3] 66)).alloc (Obj.cells #[.int .i64 b.x0, .int .i64 b.x1, .int .i64 b.x2, .int .i64 b.x3] 66)) 66 #[.int .i64 (part z 0).x0, .int .i64 (part z 0).x1, .int .i64 (part z 0).x2, .int .i64 (part z 0).x3]
  simpa [part] using this⟩ ?_
 rintro W ⟨⟨g3, hg3, BX, K3⟩⟩
 have n3 : w.heap.size ≤ g3 ∧ g3 ≠ w.heap.size ∧ g3 ≠ w.heap.size + 1 := by omega
 rw [← hg3]
 have BX := Hd.mk BX
 have K3 := Hd.mk K3
 clear hg3
 generalize w.heap.size + 1 = g2 at BX n3 ⊢
 obtain ⟨n3a, n3b, n3c⟩ := n3
 go_wp2_with fail
 go_loopw [8] (fun v8 wr => ∃ i : Nat, v8 = .int .i64 i ∧ i ≤ 4 ∧ Hd (Bm2 w.heap.size w.heap.size g2 w wr a b) ∧ Hd (Bk wr g3 66 #[.int .i64 (part z i).x0, .int .i64 (part z i).x1, .int .i64 (part z i).x2, .int .i64 (part z i).x3])) (fun v _ => 4 - (intOf v).toNat)
 case atStart => exact ⟨0, rfl, by omega, BX, K3⟩
 case round =>
  clear BX K3
  obtain ⟨i, rfl, hi, BX, K3⟩ := hrel
  obtain ⟨c0, c1, c2, c3⟩ := BX.out.k1.four
  obtain ⟨d0, d1, d2, d3⟩ := BX.out.k2.four
  rcases (show i = 0 ∨ i = 1 ∨ i = 2 ∨ i = 3 ∨ i = 4 by omega) with rfl | rfl | rfl | rfl | rfl
  ·have k3 : Bk wr g3 66 #[.int .i64 (part z 0).x0, .int .i64 (part z 0).x1, .int .i64 (part z 0).x2, .int .i64 (part z 0).x3] := K3.out
   obtain ⟨e0, e1, e2, e3⟩ := k3.four
   have fz := k3.froz 0
   clear k3
   go_wp2_with fail
   go_region_held3 (fun w' => Hd (Blw w.heap.size w w') ∧ w'.cell? ⟨w.heap.size, 0, none⟩ = some (.int .i64 a.x0) ∧ w'.cell? ⟨g2, 0, none⟩ = some (.int .i64 b.x0))
    (first
     | exact ⟨⟨BX.out.below⟩, c0, d0⟩
     | exact ⟨⟨(BX.out.dn 1).below⟩, c0, d0⟩
     | exact ⟨⟨(BX.out.dn 1).below.setCell n3a _⟩, (far1 rfl n3b).trans c0, (far1 rfl n3c).trans d0⟩)
    (first | (go_at_call 167; with_reducible refine (F0.out _).mono ?_; rintro e w4 ⟨rfl, rfl⟩))
   all_goals (
    go_wp2_with fail
    go_roundw
    case measure => first | (simp [intOf]; done) | (simp [intOf]; omega)
    case rel =>
     refine ⟨1, rfl, by omega, ⟨⟨(BX.out.dn 1).below.setCell n3a _, BX.out.s1, BX.out.s2, BX.out.n12, (BX.out.dn 1).k1.far n3b.symm _, (BX.out.dn 1).k2.far n3c.symm _⟩⟩, ⟨?_⟩⟩
     exact (show Bk wr.drew g3 66 #[.int .i64 (part z 0).x0, .int .i64 (part z 0).x1, .int .i64 (part z 0).x2, .int .i64 (part z 0).x3] from K3.out).set_ 0 (.int .i64 z.x0))
  ·have k3 : Bk wr g3 66 #[.int .i64 (part z 1).x0, .int .i64 (part z 1).x1, .int .i64 (part z 1).x2, .int .i64 (part z 1).x3] := K3.out
   obtain ⟨e0, e1, e2, e3⟩ := k3.four
   have fz := k3.froz 1
   clear k3
   go_wp2_with fail
   go_region_held3 (fun w' => Hd (Blw w.heap.size w w') ∧ w'.cell? ⟨w.heap.size, 1, none⟩ = some (.int .i64 a.x1) ∧ w'.cell? ⟨g2, 1, none⟩ = some (.int .i64 b.x1))
    (first
     | exact ⟨⟨BX.out.below⟩, c1, d1⟩
     | exact ⟨⟨(BX.out.dn 1).below⟩, c1, d1⟩
     | exact ⟨⟨(BX.out.dn 1).below.setCell n3a _⟩, (far1 rfl n3b).trans c1, (far1 rfl n3c).trans d1⟩)
    (first | (go_at_call 167; with_reducible refine (F1.out _).mono ?_; rintro e w4 ⟨rfl, rfl⟩))
   all_goals (
    go_wp2_with fail
    go_roundw
    case measure => first | (simp [intOf]; done) | (simp [intOf]; omega)
    case rel =>
     refine ⟨2, rfl, by omega, ⟨⟨(BX.out.dn 1).below.setCell n3a _, BX.out.s1, BX.out.s2, BX.out.n12, (BX.out.dn 1).k1.far n3b.symm _, (BX.out.dn 1).k2.far n3c.symm _⟩⟩, ⟨?_⟩⟩
     exact (show Bk wr.drew g3 66 #[.int .i64 (part z 1).x0, .int .i64 (part z 1).x1, .int .i64 (part z 1).x2, .int .i64 (part z 1).x3] from K3.out).set_ 1 (.int .i64 z.x1))
  ·have k3 : Bk wr g3 66 #[.int .i64 (part z 2).x0, .int .i64 (part z 2).x1, .int .i64 (part z 2).x2, .int .i64 (part z 2).x3] := K3.out
   obtain ⟨e0, e1, e2, e3⟩ := k3.four
   have fz := k3.froz 2
   clear k3
   go_wp2_with fail
   go_region_held3 (fun w' => Hd (Blw w.heap.size w w') ∧ w'.cell? ⟨w.heap.size, 2, none⟩ = some (.int .i64 a.x2) ∧ w'.cell? ⟨g2, 2, none⟩ = some (.int .i64 b.x2))
    (first
     | exact ⟨⟨BX.out.below⟩, c2, d2⟩
     | exact ⟨⟨(BX.out.dn 1).below⟩, c2, d2⟩
     | exact ⟨⟨(BX.out.dn 1).below.setCell n3a _⟩, (far1 rfl n3b).trans c2, (far1 rfl n3c).trans d2⟩)
    (first | (go_at_call 167; with_reducible refine (F2.out _).mono ?_; rintro e w4 ⟨rfl, rfl⟩))
   all_goals (
    go_wp2_with fail
    go_roundw
    case measure => first | (simp [intOf]; done) | (simp [intOf]; omega)
    case rel =>
     refine ⟨3, rfl, by omega, ⟨⟨(BX.out.dn 1).below.setCell n3a _, BX.out.s1, BX.out.s2, BX.out.n12, (BX.out.dn 1).k1.far n3b.symm _, (BX.out.dn 1).k2.far n3c.symm _⟩⟩, ⟨?_⟩⟩
     exact (show Bk wr.drew g3 66 #[.int .i64 (part z 2).x0, .int .i64 (part z 2).x1, .int .i64 (part z 2).x2, .int .i64 (part z 2).x3] from K3.out).set_ 2 (.int .i64 z.x2))
  ·have k3 : Bk wr g3 66 #[.int .i64 (part z 3).x0, .int .i64 (part z 3).x1, .int .i64 (part z 3).x2, .int .i64 (part z 3).x3] := K3.out
   obtain ⟨e0, e1, e2, e3⟩ := k3.four
   have fz := k3.froz 3
   clear k3
   go_wp2_with fail
   go_region_held3 (fun w' => Hd (Blw w.heap.size w w') ∧ w'.cell? ⟨w.heap.size, 3, none⟩ = some (.int .i64 a.x3) ∧ w'.cell? ⟨g2, 3, none⟩ = some (.int .i64 b.x3))
    (first
     | exact ⟨⟨BX.out.below⟩, c3, d3⟩
     | exact ⟨⟨(BX.out.dn 1).below⟩, c3, d3⟩
     | exact ⟨⟨(BX.out.dn 1).below.setCell n3a _⟩, (far1 rfl n3b).trans c3, (far1 rfl n3c).trans d3⟩)
    (first | (go_at_call 167; with_reducible refine (F3.out _).mono ?_; rintro e w4 ⟨rfl, rfl⟩))
   all_goals (
    go_wp2_with fail
    go_roundw
    case measure => first | (simp [intOf]; done) | (simp [intOf]; omega)
    case rel =>
     refine ⟨4, rfl, by omega, ⟨⟨(BX.out.dn 1).below.setCell n3a _, BX.out.s1, BX.out.s2, BX.out.n12, (BX.out.dn 1).k1.far n3b.symm _, (BX.out.dn 1).k2.far n3c.symm _⟩⟩, ⟨?_⟩⟩
     exact (show Bk wr.drew g3 66 #[.int .i64 (part z 3).x0, .int .i64 (part z 3).x1, .int .i64 (part z 3).x2, .int .i64 (part z 3).x3] from K3.out).set_ 3 (.int .i64 z.x3))
  ·have k3 : Bk wr g3 66 #[.int .i64 (z).x0, .int .i64 (z).x1, .int .i64 (z).x2, .int .i64 (z).x3] := K3.out
   obtain ⟨e0, e1, e2, e3⟩ := k3.four
   have fz := fun i => k3.froz i
   have K4 := Hd.mk k3
   clear k3 K3
   go_wp2_with fail
   refine bodyPost_ret (res_mono rfl _ _ g3 _ rfl (K4.out.set4 _ _ _ _) rfl) rfl ?_
   exact ⟨rfl, (((BX.out.below.setCell n3a _).setCell n3a _).setCell n3a _).setCell n3a _⟩
theorem mono_Lcm (a b : MonD) (w : World) :
    Calls Tryz.prog 92 #[.agg #[.int .i64 a.x0, .int .i64 a.x1, .int .i64 a.x2, .int .i64 a.x3], .agg #[.int .i64 b.x0, .int .i64 b.x1, .int .i64 b.x2, .int .i64 b.x3]] w fun e w' =>
     e = .returned (.agg #[.int .i64 (monLcm a b).x0, .int .i64 (monLcm a b).x1, .int .i64 (monLcm a b).x2, .int .i64 (monLcm a b).x3]) ∧ Blw w.heap.size w w' := by
 obtain ⟨E, hE⟩ : ∃ E, monLcm a b = E := ⟨_, rfl⟩
 rw [hE]
 have HEQ := Hd.mk hE
 clear hE
 go_enter Tryz.func92, Tryz.ntmps92
 go_upto_region 1 with (fail)
 refine wp_gen (fun W => Bm3 w.heap.size w.heap.size (w.heap.size + 1) (w.heap.size + 1 + 1) w W a b zeroM) (Bm3.mk3 w a b zeroM) ?_
 intro W BX
 generalize w.heap.size + 1 + 1 = g3 at BX ⊢
 generalize w.heap.size + 1 = g2 at BX ⊢
 obtain ⟨c0, c1, c2, c3⟩ := BX.out.bm.k1.four
 have CA := Hd.mk (mono_May a W)
 cases hma : monMay a
 ·have HE : Hd (monLcm a b = zeroM) := ⟨by unfold monLcm; rw [hma]; rfl⟩
  rw [hma] at CA
  go_wp2_with fail
  refine CA.out.mono ?_
  rintro e w4 ⟨rfl, hb⟩
  have BX4 := Hd.mk (BX.out.up hb)
  obtain ⟨e0, e1, e2, e3⟩ := BX4.out.k3.four
  have fz := fun i => BX4.out.k3.froz i
  clear hb
  go_wp2_with fail
  obtain ⟨d1, d2⟩ := BX4.out.done (.int .i64 0) (.int .i64 0) (.int .i64 0) (.int .i64 0)
  refine bodyPost_ret (res_mono rfl _ _ g3 _ rfl d1 rfl) rfl ?_
  have h5 := HEQ.out.symm.trans HE.out
  subst h5
  exact ⟨rfl, d2⟩
 ·rw [hma] at CA
  go_wp2_with fail
  refine CA.out.mono ?_
  rintro e w4 ⟨rfl, hb⟩
  have BX4 := Hd.mk (BX.out.up hb)
  obtain ⟨p0, p1, p2, p3⟩ := BX4.out.bm.k2.four
  have CB := Hd.mk (mono_May b w4)
  clear hb c0 c1 c2 c3 BX CA
  cases hmb : monMay b
  ·have HE : Hd (monLcm a b = zeroM) := ⟨by unfold monLcm; rw [hmb]; simp⟩
   rw [hmb] at CB
   go_wp2_with fail
   refine CB.out.mono ?_
   rintro e w5 ⟨rfl, hb⟩
   have BX5 := Hd.mk (BX4.out.up hb)
   obtain ⟨e0, e1, e2, e3⟩ := BX5.out.k3.four
   have fz := fun i => BX5.out.k3.froz i
   clear hb
   go_wp2_with fail
   obtain ⟨d1, d2⟩ := BX5.out.done (.int .i64 0) (.int .i64 0) (.int .i64 0) (.int .i64 0)
   refine bodyPost_ret (res_mono rfl _ _ g3 _ rfl d1 rfl) rfl ?_
   have h5 := HEQ.out.symm.trans HE.out
   subst h5
   exact ⟨rfl, d2⟩
  ·rw [hmb] at CB
   have HE : Hd (monLcm a b = maxM a b) := ⟨by unfold monLcm; rw [hma, hmb]; rfl⟩
   obtain ⟨z, hz⟩ : ∃ z, z = maxM a b := ⟨_, rfl⟩
   rw [← hz] at HE
   have ZP := Hd.mk (fun W => zip_lcm a b z hz W hma hmb)
   clear hma hmb hz
   go_wp2_with fail
   refine CB.out.mono ?_
   rintro e w5 ⟨rfl, hb⟩
   have BX5 := Hd.mk (BX4.out.up hb)
   obtain ⟨c0, c1, c2, c3⟩ := BX5.out.bm.k1.four
   obtain ⟨p0, p1, p2, p3⟩ := BX5.out.bm.k2.four
   clear hb CB
   go_wp2_with fail
   refine (ZP.out w5).mono ?_
   rintro e w6 ⟨rfl, hb⟩
   have BX6 := Hd.mk (BX5.out.up hb)
   obtain ⟨e0, e1, e2, e3⟩ := BX6.out.k3.four
   have fz := fun i => BX6.out.k3.froz i
   clear hb ZP
   go_wp2_with fail
   obtain ⟨d1, d2⟩ := BX6.out.done (.int .i64 z.x0) (.int .i64 z.x1) (.int .i64 z.x2) (.int .i64 z.x3)
   refine bodyPost_ret (res_mono rfl _ _ g3 _ rfl d1 rfl) rfl ?_
   have h5 := HEQ.out.symm.trans HE.out
   subst h5
   exact ⟨rfl, d2⟩
end Go.Proofs.YtgjkgkgieeoalaaGreat
