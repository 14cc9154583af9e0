/- Parts of the proof, joined: what each says stands at its head. -/
import Derived.Test.YtidjbiopneoeeaaGreatM27
import Derived.Test.YtidjbiopneoeeaaGreatM23
import Derived.Test.YtidjbiopneoeeaaGreatM18
import Derived.Test.YtidjbiopneoeeaaGreatM21
import Derived.Test.YtidjbiopneoeeaaGreatM24
import Derived.Deep.Slices
import Derived.Deep.Strs
import Derived.OpenShut
import Derived.ChangeSlices
import Derived.ChangeSame
set_option linter.unusedVariables false
set_option linter.unusedSimpArgs false
/- The walk of the law's one: a number as a term. No condition but the number's own. -/
namespace Go.Proofs.YtidjbiopneoeeaaGreat
open Go.RowKit

theorem Tryz.stTerm : isStruct (Tryz.prog.underlying 67) = true := by kernel_rfl
theorem Tryz.szTerm : (Tryz.prog.info? 67).map (·.size) = some 7 := by kernel_rfl
theorem res_term {fn : Func} {p : Tmp} (h : fn.results = #[.cell p 67]) (tmps : Array Value) (w : World) (g : Nat) (cs : Array Value) (hp : tmps.getD p undef = .pointer (some ⟨g, 0, none⟩)) (hk : Bk w g 67 cs) (hc : cs.size = 7) :
    (results fn tmps).run Tryz.prog w = .ok (.agg cs) w := by
  obtain ⟨f, h1⟩ := st_of Tryz.stTerm
  exact results_cell_row h tmps w g _ cs (0, 0) (.struct f) hp hk h1 rfl (by rw [hc]; exact Tryz.szTerm)
def set7 (w : World) (g : Nat) (v0 v1 v2 v3 v4 v5 v6 : Value) : World := ((((((w.setCell ⟨g, 0, none⟩ v0).setCell ⟨g, 1, none⟩ v1).setCell ⟨g, 2, none⟩ v2).setCell ⟨g, 3, none⟩ v3).setCell ⟨g, 4, none⟩ v4).setCell ⟨g, 5, none⟩ v5).setCell ⟨g, 6, none⟩ v6
section
variable {w w0 : World} {g b0 B : Nat} {t : TypeId} {a0 a1 a2 a3 a4 a5 a6 : Value}
theorem Bk.set7 (h : Bk w g t #[a0, a1, a2, a3, a4, a5, a6]) (v0 v1 v2 v3 v4 v5 v6 : Value) : Bk (set7 w g v0 v1 v2 v3 v4 v5 v6) g t #[v0, v1, v2, v3, v4, v5, v6] := by
  have h1 : Bk _ g t #[v0, a1, a2, a3, a4, a5, a6] := h.set_ 0 v0
  have h2 : Bk _ g t #[v0, v1, a2, a3, a4, a5, a6] := h1.set_ 1 v1
  have h3 : Bk _ g t #[v0, v1, v2, a3, a4, a5, a6] := h2.set_ 2 v2
  have h4 : Bk _ g t #[v0, v1, v2, v3, a4, a5, a6] := h3.set_ 3 v3
  have h5 : Bk _ g t #[v0, v1, v2, v3, v4, a5, a6] := h4.set_ 4 v4
  have h6 : Bk _ g t #[v0, v1, v2, v3, v4, v5, a6] := h5.set_ 5 v5
  have h7 : Bk _ g t #[v0, v1, v2, v3, v4, v5, v6] := h6.set_ 6 v6
  exact h7
theorem Below.set7 (h : Below B w0 w) (hg : B ≤ g) (v0 v1 v2 v3 v4 v5 v6 : Value) : Below B w0 (set7 w g v0 v1 v2 v3 v4 v5 v6) :=
  ((((((h.setCell hg _).setCell hg _).setCell hg _).setCell hg _).setCell hg _).setCell hg _).setCell hg _
theorem RTerm.set7 {v : Value} {s : TermD} {cs : Array Value} (h : RTerm w b0 v s) (hk : Bk w g 67 cs) (hb : b0 ≤ g) (v0 v1 v2 v3 v4 v5 v6 : Value) : RTerm (set7 w g v0 v1 v2 v3 v4 v5 v6) b0 v s :=
  h.grown ((((((set_grown w ⟨g, 0, none⟩ v0).set 1 v1).set 2 v2).set 3 v3).set 4 v4).set 5 v5 |>.set 6 v6) (fun g' e => by cases e; exact ⟨hb, _, _, hk, by decide⟩)
end

theorem one_keep {S g1 g2 : Nat} {w0 w : World} {m : MonD} {cs : Array Value} (h : Bo2 S g1 g2 w0 w 65 67 m.v cs) (v0 v1 v2 v3 v4 v5 v6 : Value) :
    Hd (Below S w0 (((((((w.setCell ⟨g2, 0, none⟩ v0).setCell ⟨g2, 1, none⟩ v1).setCell ⟨g2, 2, none⟩ v2).setCell ⟨g2, 3, none⟩ v3).setCell ⟨g2, 4, none⟩ v4).setCell ⟨g2, 5, none⟩ v5).setCell ⟨g2, 6, none⟩ v6)) ∧ (((((((w.setCell ⟨g2, 0, none⟩ v0).setCell ⟨g2, 1, none⟩ v1).setCell ⟨g2, 2, none⟩ v2).setCell ⟨g2, 3, none⟩ v3).setCell ⟨g2, 4, none⟩ v4).setCell ⟨g2, 5, none⟩ v5).setCell ⟨g2, 6, none⟩ v6).cell? ⟨g1, 0, none⟩ = some (.int .i64 m.x0) ∧ (((((((w.setCell ⟨g2, 0, none⟩ v0).setCell ⟨g2, 1, none⟩ v1).setCell ⟨g2, 2, none⟩ v2).setCell ⟨g2, 3, none⟩ v3).setCell ⟨g2, 4, none⟩ v4).setCell ⟨g2, 5, none⟩ v5).setCell ⟨g2, 6, none⟩ v6).cell? ⟨g1, 1, none⟩ = some (.int .i64 m.x1) ∧ (((((((w.setCell ⟨g2, 0, none⟩ v0).setCell ⟨g2, 1, none⟩ v1).setCell ⟨g2, 2, none⟩ v2).setCell ⟨g2, 3, none⟩ v3).setCell ⟨g2, 4, none⟩ v4).setCell ⟨g2, 5, none⟩ v5).setCell ⟨g2, 6, none⟩ v6).cell? ⟨g1, 2, none⟩ = some (.int .i64 m.x2) ∧ (((((((w.setCell ⟨g2, 0, none⟩ v0).setCell ⟨g2, 1, none⟩ v1).setCell ⟨g2, 2, none⟩ v2).setCell ⟨g2, 3, none⟩ v3).setCell ⟨g2, 4, none⟩ v4).setCell ⟨g2, 5, none⟩ v5).setCell ⟨g2, 6, none⟩ v6).cell? ⟨g1, 3, none⟩ = some (.int .i64 m.x3) := by
  refine ⟨⟨Below.set7 h.below h.s2 _ _ _ _ _ _ _⟩, ?_⟩
  have h1 := h.k1.far (p := ⟨g2, 0, none⟩) h.n12 v0
  have h2 := h1.far (p := ⟨g2, 1, none⟩) h.n12 v1
  have h3 := h2.far (p := ⟨g2, 2, none⟩) h.n12 v2
  have h4 := h3.far (p := ⟨g2, 3, none⟩) h.n12 v3
  have h5 := h4.far (p := ⟨g2, 4, none⟩) h.n12 v4
  have h6 := h5.far (p := ⟨g2, 5, none⟩) h.n12 v5
  have h7 := h6.far (p := ⟨g2, 6, none⟩) h.n12 v6
  exact h7.four

set_option maxHeartbeats 1000000 in
set_option maxRecDepth 100000 in
theorem law_one (b0 : Nat) (n : Int) (m : MonD) (w : World) (hb0 : b0 ≤ w.heap.size) (h0 : -9223372036854775808 ≤ n) (h1 : n ≤ 9223372036854775807) :
    Calls Tryz.prog 29 #[.int .i64 n, .agg m.v] w fun e w' => ∃ A c B d, e = .returned (.agg (TermD.v ⟨ofD n, m⟩ A c B d)) ∧ RTerm w' b0 (.agg (TermD.v ⟨ofD n, m⟩ A c B d)) ⟨ofD n, m⟩ ∧ Below w.heap.size w w' := by
  have HB0 := Hd.mk hb0
  have CO := Hd.mk (fun W (hB : Hd (Below w.heap.size w W)) => rrat_Of b0 n W (Nat.le_trans hb0 hB.out.size) h0 h1)
  obtain ⟨X, hX⟩ : ∃ X, ofD n = X := ⟨_, rfl⟩
  rw [hX] at CO ⊢
  clear hb0 hX
  go_enter Tryz.func29, Tryz.ntmps29
  go_upto_region 1 with (fail)
  refine wp_gen (fun W => Bo2 w.heap.size w.heap.size (w.heap.size + 1) w W 65 67 m.v #[.bool false, .slice none 0 0, .slice none 0 0, .int .i64 0, .int .i64 0, .int .i64 0, .int .i64 0]) (Bo2.mk2 w _ _ _ _) ?_
  intro W BX
  have HG2 : Hd (w.heap.size ≤ w.heap.size + 1) := ⟨Nat.le_succ _⟩
  generalize w.heap.size + 1 = g2 at BX HG2 ⊢
  have SO := Hd.mk (fun W' (hB : Bo2 w.heap.size w.heap.size g2 w W' 65 67 m.v #[.bool false, .slice none 0 0, .slice none 0 0, .int .i64 0, .int .i64 0, .int .i64 0, .int .i64 0]) => And.intro (Hd.mk hB.below) hB.k1.four)
  go_wp2_with fail
  go_region_held3 (fun w' => Hd (Below w.heap.size w w') ∧ w'.cell? ⟨w.heap.size, 0, none⟩ = some (.int .i64 m.x0) ∧ w'.cell? ⟨w.heap.size, 1, none⟩ = some (.int .i64 m.x1) ∧ w'.cell? ⟨w.heap.size, 2, none⟩ = some (.int .i64 m.x2) ∧ w'.cell? ⟨w.heap.size, 3, none⟩ = some (.int .i64 m.x3))
    (first
      | with_reducible exact one_keep BX5.out _ _ _ _ _ _ _
      | with_reducible exact SO.out _ BX5.out
      | with_reducible exact SO.out _ BX.out
      | with_reducible exact SO.out _ BX.out.d1)
    (first
      | (go_at_call 44; with_reducible refine (CO.out _ ⟨BX.out.d1.below⟩).mono ?_; rintro e w5 ⟨x, rfl, hx, hb⟩
         have BX5 := Hd.mk (BX.out.d1.up hb)
         have HX := Hd.mk hx
         obtain ⟨XA, xc, XB, xd, rfl, _, _, _, _⟩ := hx
         obtain ⟨⟨p0, p1, p2⟩, p3, p4, p5, p6⟩ := BX5.out.k2.seven
         have fz := fun i => BX5.out.k2.froz i
         have HT := Hd.mk (rterm_of HX.out m)))
  all_goals
    go_wp2_with fail
    refine bodyPost_ret (res_term rfl _ _ g2 _ rfl (BX5.out.k2.set7 _ _ _ _ _ _ _) rfl) rfl ?_
    exact ⟨XA, xc, XB, xd, rfl, RTerm.set7 HT.out BX5.out.k2 (Nat.le_trans HB0.out HG2.out) _ _ _ _ _ _ _, Below.set7 BX5.out.below HG2.out _ _ _ _ _ _ _⟩

def heavyD (l : List TermD) : Bool := decide (80 < l.length) || l.any fun t => decide (12 < t.c.num.length) || decide (12 < t.c.den.length)
theorem heavy_short {l : List TermD} (h : heavyD l = false) : shortP l ∧ l.length ≤ 80 := by
  unfold heavyD at h
  rw [Bool.or_eq_false_iff, List.any_eq_false] at h
  have h1 := of_decide_eq_false h.1
  refine ⟨⟨by omega, fun t ht => ?_⟩, by omega⟩
  have := h.2 t ht
  simp only [Bool.or_eq_true, decide_eq_true_eq, not_or] at this
  exact ⟨by omega, by omega⟩

set_option maxHeartbeats 4000000 in
set_option maxRecDepth 100000 in
theorem law_heavy (b0 : Nat) (A : Option Addr) (c : Nat) (ts : List TermD) (w : World) (h : RPol w b0 A ts) (hc : ts.length ≤ c) (hl : ts.length ≤ maxLen) :
    Calls Tryz.prog 34 #[.slice A ts.length c] w fun e w' => e = .returned (.bool (heavyD ts)) ∧ Below w.heap.size w w' := by
  unfold maxLen at hl
  have HP := Hd.mk h
  clear h
  by_cases h80 : 80 < ts.length
  · have HF : Hd (heavyD ts = true) := ⟨by unfold heavyD; rw [decide_eq_true h80]; rfl⟩
    go_enter Tryz.func34, Tryz.ntmps34
    go_wp2_with fail
    go_ret
    exact ⟨retBool HF.out.symm, .refl _ _⟩
  have HF : Hd (heavyD ts = ts.any fun t => decide (12 < t.c.num.length) || decide (12 < t.c.den.length)) := ⟨by unfold heavyD; rw [decide_eq_false h80]; rfl⟩
  go_enter Tryz.func34, Tryz.ntmps34
  go_wp2_with fail
  go_loop [3] (fun v => ∃ i : Nat, v = .int .i64 i ∧ i ≤ ts.length ∧ Hd ((ts.take i).any (fun t => decide (12 < t.c.num.length) || decide (12 < t.c.den.length)) = false)) (fun v => ts.length - (intOf v).toNat)
  case atStart => exact ⟨0, rfl, by omega, ⟨rfl⟩⟩
  case round =>
    obtain ⟨i, rfl, hi, ha⟩ := hrel
    by_cases hlt : i < ts.length
    · have i1 : (i : Int) < ts.length := by omega
      have i3 : (0 : Int) ≤ i := by omega
      obtain ⟨ad, B1, c1, B2, c2, t, rfl, hab, ht, hrt, q0, q1, q2, q3, q4, q5, q6⟩ := HP.out.get hlt
      have e1 : ts[i] = t := by have := ht.out; rw [List.getElem?_eq_getElem hlt] at this; injection this
      have HY : Hd ((decide (12 < t.c.num.length) || decide (12 < t.c.den.length)) = true → heavyD ts = true) := ⟨fun h => by
        rw [HF.out, List.any_eq_true]
        exact ⟨t, List.mem_of_getElem? ht.out, h⟩⟩
      have HN : Hd ((decide (12 < t.c.num.length) || decide (12 < t.c.den.length)) = false → (ts.take (i + 1)).any (fun t => decide (12 < t.c.num.length) || decide (12 < t.c.den.length)) = false) := ⟨fun h => by
        rw [List.take_succ_eq_append_getElem hlt, e1, List.any_append, ha.out, List.any_cons, h]; rfl⟩
      clear e1 ht hrt
      by_cases hn : 12 < t.c.num.length
      · have HT := Hd.mk (HY.out (by rw [decide_eq_true hn]; rfl))
        go_wp2_with fail
        go_ret
        exact ⟨retBool HT.out.symm, .refl _ _⟩
      by_cases hd : 12 < t.c.den.length
      · have HT := Hd.mk (HY.out (by rw [decide_eq_true hd]; simp))
        go_wp2_with fail
        go_ret
        exact ⟨retBool HT.out.symm, .refl _ _⟩
      · have HT := Hd.mk (HN.out (by rw [decide_eq_false hn, decide_eq_false hd]; rfl))
        go_wp2_with fail
        go_round
        case measure => first | (simp [intOf]; done) | (simp [intOf]; omega)
        case rel => exact ⟨i + 1, by go_num, by omega, HT⟩
    · obtain rfl : i = ts.length := by omega
      have HT : Hd (heavyD ts = false) := ⟨by rw [HF.out]; have := ha.out; rwa [List.take_length] at this⟩
      go_wp2_with fail
      go_ret
      exact ⟨retBool HT.out.symm, .refl _ _⟩
end Go.Proofs.YtidjbiopneoeeaaGreat
/- How the law's arguments read: naturals, rationals, monomials, rows of terms. No condition. -/
namespace Go.Proofs.YtidjbiopneoeeaaGreat
open Go.ChangeShapes Go.WideShapes Go.RowKit

def fieldsAt : Option TypeDesc → List (TypeId × Nat)
  | some (.struct fs) => fs.toList.map fun f => (f.type, f.offset)
  | _ => []
theorem fields_of {o : Option TypeDesc} {x : TypeId × Nat} {l : List (TypeId × Nat)} (h : fieldsAt o = x :: l) : ∃ fs : Array Field, o = some (.struct fs) ∧ fs.toList.map (fun f => (f.type, f.offset)) = x :: l := by
  unfold fieldsAt at h
  split at h
  · exact ⟨_, rfl, h⟩
  · cases h
theorem two_of {o : Option TypeDesc} {x y : TypeId × Nat} (h : fieldsAt o = [x, y]) : ∃ f g : Field, o = some (.struct #[f, g]) ∧ f.type = x.1 ∧ f.offset = x.2 ∧ g.type = y.1 ∧ g.offset = y.2 := by
  obtain ⟨⟨l⟩, e, h2⟩ := fields_of h
  match l, h2 with
  | [f, g], h2 =>
    simp only [List.map_cons, List.map_nil, List.cons.injEq, and_true] at h2
    exact ⟨f, g, e, by rw [← h2.1], by rw [← h2.1], by rw [← h2.2], by rw [← h2.2]⟩
theorem three_of {o : Option TypeDesc} {x y z : TypeId × Nat} (h : fieldsAt o = [x, y, z]) : ∃ f g k : Field, o = some (.struct #[f, g, k]) ∧ f.type = x.1 ∧ f.offset = x.2 ∧ g.type = y.1 ∧ g.offset = y.2 ∧ k.type = z.1 ∧ k.offset = z.2 := by
  obtain ⟨⟨l⟩, e, h2⟩ := fields_of h
  match l, h2 with
  | [f, g, k], h2 =>
    simp only [List.map_cons, List.map_nil, List.cons.injEq, and_true] at h2
    exact ⟨f, g, k, e, by rw [← h2.1], by rw [← h2.1], by rw [← h2.2.1], by rw [← h2.2.1], by rw [← h2.2.2], by rw [← h2.2.2]⟩

theorem Tryz.fldRat : fieldsAt (Tryz.prog.underlying 63) = [(4, 0), (61, 1), (61, 2)] := by kernel_rfl
theorem Tryz.fldTerm : fieldsAt (Tryz.prog.underlying 67) = [(63, 0), (65, 3)] := by kernel_rfl
theorem Tryz.undBool : Tryz.prog.underlying 4 = some .bool := by kernel_rfl
theorem Tryz.undU64 : Tryz.prog.underlying 106 = some (.int .u64) := by kernel_rfl
theorem Tryz.cuU64 : Tryz.prog.cellsOf 106 = 1 := by kernel_rfl
theorem Tryz.cuBool : Tryz.prog.cellsOf 4 = 1 := by kernel_rfl
theorem Tryz.cuNat : Tryz.prog.cellsOf 61 = 1 := by kernel_rfl
theorem Tryz.cuRat : Tryz.prog.cellsOf 63 = 3 := by kernel_rfl
theorem Tryz.cuMono : Tryz.prog.cellsOf 65 = 4 := by kernel_rfl
theorem Tryz.cuTerm : Tryz.prog.cellsOf 67 = 7 := by kernel_rfl

section
variable {H : Type} {enc : TypeId × Value → H} {w : World} {base : Nat} {spare : Nat → Bool} {held : Bool} {fuel : Nat} {cs : List Value} {x : DataW H × List MemPlace}
theorem rd_nat (h : DataW.trod enc Tryz.prog w base spare held fuel 61 cs = some x) : ∃ A l c, cs = [.slice A l.length c] ∧ l.length ≤ c ∧ RRow w w.heap.size A l := by
  rcases open_ints Tryz.slNat Tryz.undU64 Tryz.cuU64 h with ⟨e, _⟩ | ⟨a, len, cap, zs, e, _, hl, hm, hz, _, hc, hw⟩
  · exact ⟨none, [], 0, e, Nat.le_refl _, RRow.nil _ _ _⟩
  · have hle : len ≤ zs.length := by rw [hz]; split <;> omega
    have hlen : (zs.take len).length = len := by rw [List.length_take]; omega
    refine ⟨some a, zs.take len, cap, by rw [hlen]; exact e, by rw [hlen]; exact hl, RRow.old ?_ ?_ (Nat.le_refl _)⟩
    · refine ⟨by rw [ints_len, Nat.mul_one], fun hn => ⟨a, rfl, ?_, fun j u hu => ?_⟩⟩
      · have := World.block_lt_of_cell? w _ (hc 0 (by omega))
        rwa [add_block] at this
      · have hj : j < len := by
          have : j < (ints .u64 (zs.take len)).length := by
            rcases Nat.lt_or_ge j (ints .u64 (zs.take len)).length with h1 | h1
            · exact h1
            · rw [List.getElem?_eq_none h1] at hu; cases hu
          rwa [ints_len, hlen] at this
        rw [ints_get _ _ _ (by rw [hlen]; exact hj)] at hu
        injection hu with hu
        rw [← hu, hc j (by omega)]
        simp [List.getD_eq_getElem?_getD, List.getElem?_take, hj]
    · intro n hn
      have := bounds_u64 (hw n (List.mem_of_mem_take hn))
      omega
theorem rd_rat (h : DataW.trod enc Tryz.prog w base spare held fuel 63 cs = some x) : ∃ (r : RatD) (A : Option Addr) (c : Nat) (B : Option Addr) (d : Nat),
    cs = [.bool r.neg, .slice A r.num.length c, .slice B r.den.length d] ∧ r.num.length ≤ c ∧ r.den.length ≤ d ∧ RRow w w.heap.size A r.num ∧ RRow w w.heap.size B r.den := by
  obtain ⟨f, g, k, e, t1, o1, t2, o2, t3, o3⟩ := three_of Tryz.fldRat
  obtain ⟨y0, y1, y2, n, _, hl, h0, h1, h2⟩ := Deep.trod_struct3 e h
  rw [Tryz.cuRat] at hl
  rw [t1, o1, Tryz.cuBool] at h0
  rw [t2, o2, Tryz.cuNat] at h1
  rw [t3, o3, Tryz.cuNat] at h2
  match cs, hl with
  | [v0, v1, v2], _ =>
    simp only [List.drop_zero, List.drop_succ_cons, List.take_succ_cons, List.take_zero] at h0 h1 h2
    obtain ⟨b, e0, _⟩ := DataW.trod_bool Tryz.undBool h0
    obtain ⟨A, l, c, e1, l1, r1⟩ := rd_nat h1
    obtain ⟨B, m, d, e2, l2, r2⟩ := rd_nat h2
    simp only [List.cons.injEq, and_true] at e0 e1 e2
    subst e0 e1 e2
    exact ⟨⟨b, l, m⟩, A, c, B, d, rfl, l1, l2, r1, r2⟩
set_option maxRecDepth 100000 in
theorem rd_mono (h : DataW.trod enc Tryz.prog w base spare held fuel 65 cs = some x) : ∃ m : MonD, cs = [.int .i64 m.x0, .int .i64 m.x1, .int .i64 m.x2, .int .i64 m.x3] := by
  obtain ⟨xs, n, _, _, hl, hx, hi⟩ := DataW.trod_array Tryz.arM h
  rw [Tryz.cuMono] at hl
  have get : ∀ i, i < 4 → ∃ k : Int, (cs.drop i).take 1 = [.int .i64 k] := fun i h4 => by
    have h1 := hi i h4
    rw [Tryz.cellsI, Nat.mul_one, List.getElem?_eq_getElem (by omega)] at h1
    obtain ⟨k, e, _⟩ := DataW.trod_int Tryz.undI h1
    exact ⟨k, e⟩
  match cs, hl with
  | [v0, v1, v2, v3], _ =>
    obtain ⟨a0, e0⟩ := get 0 (by omega)
    obtain ⟨a1, e1⟩ := get 1 (by omega)
    obtain ⟨a2, e2⟩ := get 2 (by omega)
    obtain ⟨a3, e3⟩ := get 3 (by omega)
    simp only [List.drop_zero, List.drop_succ_cons, List.take_succ_cons, List.take_zero, List.cons.injEq, and_true] at e0 e1 e2 e3
    subst e0 e1 e2 e3
    exact ⟨⟨a0, a1, a2, a3⟩, rfl⟩
theorem rd_term (h : DataW.trod enc Tryz.prog w base spare held fuel 67 cs = some x) : ∃ t : TermD, TC w w.heap.size t cs := by
  obtain ⟨f, g, e, t1, o1, t2, o2⟩ := two_of Tryz.fldTerm
  obtain ⟨y0, y1, n, _, hl, h0, h1⟩ := trod_struct2 e h
  rw [Tryz.cuTerm] at hl
  rw [t1, o1, Tryz.cuRat] at h0
  rw [t2, o2, Tryz.cuMono] at h1
  match cs, hl with
  | [v0, v1, v2, v3, v4, v5, v6], _ =>
    simp only [List.drop_zero, List.drop_succ_cons, List.take_succ_cons, List.take_zero] at h0 h1
    obtain ⟨r, A, c, B, d, e0, l1, l2, r1, r2⟩ := rd_rat h0
    obtain ⟨m, e1⟩ := rd_mono h1
    simp only [List.cons.injEq, and_true] at e0 e1
    obtain ⟨rfl, rfl, rfl⟩ := e0
    obtain ⟨rfl, rfl, rfl, rfl⟩ := e1
    exact ⟨⟨r, m⟩, A, c, B, d, rfl, l1, l2, r1, r2⟩
theorem rows_up {b0 : Nat} {a : Addr} {T : Nat → TermD} {C : Nat → List Value} : ∀ (n : Nat), (∀ i, i < n → TC w b0 (T i) (C i) ∧ ∀ k u, (C i)[k]? = some u → w.cell? (a.add (i * 7 + k)) = some u) →
    TCs w b0 ((List.range n).map T) ((List.range n).flatMap C) ∧ ∀ j u, ((List.range n).flatMap C)[j]? = some u → w.cell? (a.add j) = some u
  | 0, _ => ⟨.nil, fun j u h => by simp at h⟩
  | n + 1, h => by
    obtain ⟨h1, h2⟩ := rows_up n (fun i hi => h i (by omega))
    obtain ⟨h3, h4⟩ := h n (by omega)
    have hlen := h1.len
    rw [List.length_map, List.length_range] at hlen
    rw [List.range_succ, List.map_append, List.flatMap_append]
    refine ⟨h1.app (by simpa using TCs.cons h3 .nil), fun j u hu => ?_⟩
    rcases Nat.lt_or_ge j (n * 7) with hj | hj
    · rw [List.getElem?_append_left (by omega)] at hu
      exact h2 j u hu
    · rw [List.getElem?_append_right (by omega), hlen] at hu
      have := h4 (j - n * 7) u (by simpa using hu)
      rwa [show n * 7 + (j - n * 7) = j by omega] at this
theorem rd_terms {t : TypeId} (ht : Tryz.prog.underlying t = some (.slice 67)) (h : DataW.trod enc Tryz.prog w base spare held fuel t cs = some x) :
    ∃ A ts c, cs = [.slice A ts.length c] ∧ ts.length ≤ c ∧ c ≤ maxLen ∧ RPol w w.heap.size A ts := by
  rcases Deep.open_slice ht h with ⟨e, _⟩ | ⟨a, len, cap, m, n, D, Pl, e, _, hl, hm, hmm, _, hx⟩
  · exact ⟨none, [], 0, e, Nat.le_refl _, by unfold maxLen; omega, RPol.nil _ _ _⟩
  · have hle : len ≤ m := by rw [hmm]; split <;> omega
    have hel : ∀ i, ∃ p : TermD × List Value, i < len → TC w w.heap.size p.1 p.2 ∧ ∀ k u, p.2[k]? = some u → w.cell? (a.add (i * 7 + k)) = some u := fun i => by
      by_cases hi : i < len
      · obtain ⟨cs', h1, h2⟩ := hx i (by omega)
        rw [Tryz.cuTerm] at h1
        obtain ⟨s, hs⟩ := rd_term h2
        obtain ⟨_, h3, h4⟩ := World.cells?_some h1
        refine ⟨(s, cs'), fun _ => ⟨hs, fun k u hu => ?_⟩⟩
        have hk : k < 7 := by
          rcases Nat.lt_or_ge k cs'.length with h5 | h5
          · omega
          · rw [List.getElem?_eq_none h5] at hu; cases hu
        rw [← add_add, h4 k hk]; exact hu
      · exact ⟨(⟨zeroD, zeroM⟩, []), fun h => absurd h hi⟩
    obtain ⟨F, hF⟩ := Classical.axiomOfChoice hel
    obtain ⟨h1, h2⟩ := rows_up (w := w) (b0 := w.heap.size) (a := a) (T := fun i => (F i).1) (C := fun i => (F i).2) len (fun i hi => hF i hi)
    have hlen : ((List.range len).map fun i => (F i).1).length = len := by simp
    refine ⟨some a, (List.range len).map (fun i => (F i).1), cap, by rw [hlen]; exact e, by rw [hlen]; exact hl, hm, _, ⟨by rw [h1.len], fun hn => ⟨a, rfl, ?_, h2⟩⟩, h1⟩
    rw [hlen] at hn
    obtain ⟨h3, h4⟩ := hF 0 hn
    obtain ⟨A, c, B, d, e2, _⟩ := h3
    have := World.block_lt_of_cell? w _ (h4 0 _ (by rw [e2]; rfl))
    rwa [add_block] at this
end
end Go.Proofs.YtidjbiopneoeeaaGreat
/- Polynomials as data: sums over terms, the one form, what a sum of terms comes to; plain laws. No condition. -/
namespace Go.Proofs.YtidjbiopneoeeaaGreat

structure GoodT (t : TermD) : Prop where
  c : GoodR t.c
  m : monMay t.m = true
def GoodP (ts : List TermD) : Prop := ∀ t ∈ ts, GoodT t
def U64T (ts : List TermD) : Prop := ∀ t ∈ ts, U64 t.c.num ∧ U64 t.c.den
theorem GoodP.tl {t : TermD} {ts : List TermD} (h : GoodP (t :: ts)) : GoodP ts := fun s hs => h s (List.mem_cons_of_mem _ hs)
theorem GoodP.hd {t : TermD} {ts : List TermD} (h : GoodP (t :: ts)) : GoodT t := h t List.mem_cons_self
theorem GoodP.nil : GoodP [] := fun _ h => by cases h
theorem GoodP.cons {t : TermD} {ts : List TermD} (h : GoodT t) (hs : GoodP ts) : GoodP (t :: ts) := fun s hm => by
  rcases List.mem_cons.1 hm with rfl | hm
  · exact h
  · exact hs s hm
theorem GoodP.app {a b : List TermD} (h : GoodP a) (h' : GoodP b) : GoodP (a ++ b) := fun s hm => by
  rcases List.mem_append.1 hm with hm | hm
  · exact h s hm
  · exact h' s hm
theorem GoodP.goodM {ts : List TermD} (h : GoodP ts) : GoodM ts := fun t ht => (h t ht).m
theorem GoodP.u {ts : List TermD} (h : GoodP ts) : U64T ts := fun t ht => ⟨(h t ht).c.un, (h t ht).c.ud⟩
theorem goodT_right {t : TermD} (h : right t = true) (hu : U64 t.c.num ∧ U64 t.c.den) : GoodT t := by
  unfold right at h
  rw [Bool.and_eq_true] at h
  exact ⟨⟨h.1, hu.1, hu.2⟩, h.2⟩
theorem GoodT.right {t : TermD} (h : GoodT t) : right t = true := by
  unfold Proofs.YtidjbiopneoeeaaGreat.right
  rw [h.c.may, h.m]; rfl

/-- the sum of the coefficients, each times what its monomial is worth -/
def lin (f : MonD → Rat) : List TermD → Rat
  | [] => 0
  | t :: ts => qv t.c * f t.m + lin f ts
section
variable (f : MonD → Rat)
theorem lin_app (a b : List TermD) : lin f (a ++ b) = lin f a + lin f b := by
  induction a with
  | nil => simp [lin, Rat.zero_add]
  | cons t a ih => simp only [List.cons_append, lin, ih]; grind
theorem lin_perm {a b : List TermD} (h : a.Perm b) : lin f a = lin f b := by
  induction h with
  | nil => rfl
  | cons t _ ih => simp only [lin, ih]
  | swap s t l => simp only [lin]; grind
  | trans _ _ h1 h2 => exact h1.trans h2
theorem lin_nz {ts : List TermD} (h : GoodP ts) : lin f (ts.filter nz) = lin f ts := by
  induction ts with
  | nil => rfl
  | cons t ts ih =>
    rw [List.filter_cons]
    split
    · simp only [lin, ih h.tl]
    · rename_i hz
      have h0 : t.c.num.length = 0 := by unfold nz at hz; simpa using hz
      simp only [lin, ih h.tl, h.hd.c.nil_iff.1 h0]
      grind
theorem setM_far {al : List TermD} {m : MonD} (h : ∀ p ∈ al, p.m ≠ m) (c : RatD) : setM al m c = al := by
  unfold setM
  induction al with
  | nil => rfl
  | cons p al ih => rw [List.map_cons, if_neg (h p (by simp)), ih (fun q hq => h q (by simp [hq]))]
theorem lin_setM {al : List TermD} (hk : al.Pairwise fun p q => p.m ≠ q.m) {p : TermD} (hp : p ∈ al) (c : RatD) : lin f (setM al p.m c) + qv p.c * f p.m = lin f al + qv c * f p.m := by
  induction al with
  | nil => cases hp
  | cons q r ih =>
    obtain ⟨h1, h2⟩ := List.pairwise_cons.1 hk
    have e : setM (q :: r) p.m c = (if q.m = p.m then ⟨c, p.m⟩ else q) :: setM r p.m c := rfl
    rcases List.mem_cons.1 hp with rfl | hp
    · rw [e, if_pos rfl, setM_far (fun s hs => fun h => h1 s hs h.symm)]
      simp only [lin]
      grind
    · rw [e, if_neg (h1 p hp)]
      simp only [lin]
      have := ih h2 hp
      grind
end
theorem Sta.keys {o : Int} {al : List TermD} (h : Sta o al) : al.Pairwise fun p q => p.m ≠ q.m := by
  refine List.Pairwise.imp_of_mem ?_ h.fall
  intro p q hp hq hpq e
  have := (monCmp_zero h.ord (h.good p hp) (h.good q hq)).2 e
  omega
theorem putD_ok {o : Int} {al : List TermD} {t : TermD} (h : Sta o al) (hg : GoodP al) (ht : GoodT t) (he : (putD o al t).1 = 0) :
    GoodP (putD o al t).2 ∧ ∀ f, lin f (putD o al t).2 = lin f al + qv t.c * f t.m := by
  unfold putD at he ⊢
  by_cases hm : hasM al t.m = true
  · rw [if_pos hm] at he ⊢
    obtain ⟨p, hp, em, ec⟩ := getM_of hm
    rw [ec] at he ⊢
    rcases addD_q (hg p hp).c ht.c with h1 | ⟨h1, h2⟩
    · rw [h1] at he; simp at he
    · rw [h1]
      simp only [ne_eq, not_true, if_false]
      refine ⟨fun s hs => ?_, fun f => ?_⟩
      · rcases (mem_setM hm).1 hs with rfl | ⟨hs, _⟩
        · exact ⟨ofQ_good h2, ht.m⟩
        · exact hg s hs
      · have := lin_setM f h.keys hp (ofQ (qv p.c + qv t.c))
        rw [← em]
        rw [qv_ofQ] at this
        grind
  · rw [if_neg hm] at he ⊢
    refine ⟨fun s hs => ?_, fun f => ?_⟩
    · rcases mem_insD.1 hs with rfl | hs
      · exact ht
      · exact hg s hs
    · rw [lin_perm f (insD_perm o t al)]
      simp only [lin]
      grind
theorem putAll_ok {o : Int} : ∀ (ts al : List TermD), Sta o al → GoodP al → GoodP ts → (putAll o al ts).1 = 0 →
    Sta o (putAll o al ts).2 ∧ GoodP (putAll o al ts).2 ∧ ∀ f, lin f (putAll o al ts).2 = lin f al + lin f ts
  | [], al, h, hg, _, _ => ⟨h, hg, fun f => by simp only [putAll, lin]; grind⟩
  | t :: ts, al, h, hg, ht, he => by
    unfold putAll at he ⊢
    by_cases h1 : (putD o al t).1 = 0
    · rw [if_neg (by simpa using h1)] at he ⊢
      obtain ⟨g1, g2⟩ := putD_ok h hg ht.hd h1
      obtain ⟨a1, a2, a3⟩ := putAll_ok ts _ (h.putD ht.hd.m h1) g1 ht.tl he
      refine ⟨a1, a2, fun f => ?_⟩
      rw [a3, g2]
      simp only [lin]
      grind
    · rw [if_pos (by simpa using h1)] at he
      exact absurd he h1

/-- the one form of a polynomial -/
structure Canon (o : Int) (ps : List TermD) : Prop where
  sta : Sta o ps
  good : GoodP ps
  nz : ∀ t ∈ ps, nz t = true
theorem Sta.filter {o : Int} {al : List TermD} (h : Sta o al) (p : TermD → Bool) : Sta o (al.filter p) :=
  ⟨h.ord, fun t ht => h.good t (List.mem_filter.1 ht).1, h.fall.filter p⟩
theorem canon_nz {o : Int} {al : List TermD} (h : Sta o al) (hg : GoodP al) : Canon o (al.filter Proofs.YtidjbiopneoeeaaGreat.nz) :=
  ⟨h.filter _, fun t ht => hg t (List.mem_filter.1 ht).1, fun t ht => (List.mem_filter.1 ht).2⟩
theorem canon_nil {o : Int} (h : oOk o) : Canon o [] := ⟨.nil h, .nil, fun _ h => by cases h⟩
theorem GoodT.ne {t : TermD} (h : GoodT t) (hz : nz t = true) : qv t.c ≠ 0 := fun e => by
  have := h.c.nil_iff.2 e
  unfold nz at hz
  rw [decide_eq_true this] at hz
  cases hz
theorem polMake_ok {o : Int} {ts : List TermD} (hu : U64T ts) (h : (polMake o ts).1 = 0) :
    Canon o (polMake o ts).2 ∧ (polMake o ts).2.length ≤ 60 ∧ GoodP ts ∧ ∀ f, lin f (polMake o ts).2 = lin f ts := by
  unfold polMake at h ⊢
  split at h
  · cases h
  · rename_i h1
    rw [if_neg h1]
    split at h
    · rename_i h2; exact absurd h h2
    · rename_i h2
      rw [if_neg h2]
      split at h
      · cases h
      · rename_i h3
        rw [if_neg h3]
        rw [Bool.not_eq_false, Bool.and_eq_true, Bool.not_eq_true'] at h1
        have ho := ordered_ok.1 h1.1
        have hg : GoodP ts := fun t ht => by
          refine goodT_right ?_ (hu t ht)
          have := h1.2
          unfold anyOdd at this
          rw [List.any_eq_false] at this
          simpa using this t ht
        obtain ⟨a1, a2, a3⟩ := putAll_ok ts [] (.nil ho) .nil hg (by simpa using h2)
        refine ⟨canon_nz a1 a2, Nat.le_of_not_lt h3, hg, fun f => ?_⟩
        rw [lin_nz f a2, a3]
        simp only [lin]
        grind

def ind (m : MonD) : MonD → Rat := fun x => if x = m then 1 else 0
theorem lin_ind_not {al : List TermD} {m : MonD} (h : ∀ p ∈ al, p.m ≠ m) : lin (ind m) al = 0 := by
  induction al with
  | nil => rfl
  | cons p al ih =>
    simp only [lin]
    rw [ih (fun q hq => h q (by simp [hq]))]
    unfold ind
    rw [if_neg (h p (by simp))]
    grind
theorem lin_ind_mem {al : List TermD} (hk : al.Pairwise fun p q => p.m ≠ q.m) {t : TermD} (ht : t ∈ al) : lin (ind t.m) al = qv t.c := by
  induction al with
  | nil => cases ht
  | cons p al ih =>
    obtain ⟨h1, h2⟩ := List.pairwise_cons.1 hk
    simp only [lin]
    rcases List.mem_cons.1 ht with rfl | ht
    · rw [lin_ind_not (fun q hq => fun e => h1 q hq e.symm)]
      unfold ind
      rw [if_pos rfl]
      grind
    · rw [ih h2 ht]
      unfold ind
      rw [if_neg (h1 t ht)]
      grind
theorem canon_sub {o : Int} {p q : List TermD} (hp : Canon o p) (hq : Canon o q) (h : ∀ f, lin f p = lin f q) {t : TermD} (ht : t ∈ p) : t ∈ q := by
  have h1 := lin_ind_mem hp.sta.keys ht
  rw [h] at h1
  have h2 : ∃ s ∈ q, s.m = t.m := by
    refine Classical.byContradiction fun hn => ?_
    rw [lin_ind_not (fun s hs e => hn ⟨s, hs, e⟩)] at h1
    exact (hp.good t ht).ne (hp.nz t ht) h1.symm
  obtain ⟨s, hs, e⟩ := h2
  have h3 := lin_ind_mem hq.sta.keys hs
  rw [e, h1] at h3
  have : t.c = s.c := (hp.good t ht).c.inj (hq.good s hs).c h3
  have : t = s := by cases t; cases s; simp_all
  rw [this]; exact hs
theorem Sta.nodup' {o : Int} {al : List TermD} (h : Sta o al) : al.Nodup := h.keys.imp (fun hne e => hne (by rw [e]))
theorem canon_ext {o : Int} {p q : List TermD} (hp : Canon o p) (hq : Canon o q) (h : ∀ f, lin f p = lin f q) : p = q :=
  fall_eq hp.sta.ord hp.good.goodM hp.sta.fall hq.sta.fall ((List.perm_ext_iff_of_nodup hp.sta.nodup' hq.sta.nodup').2 fun _ => ⟨canon_sub hp hq h, canon_sub hq hp fun f => (h f).symm⟩)
/-- two sums of terms that are worth the same are the same -/
theorem polMake_ext {o : Int} {ts us : List TermD} (hu : U64T ts) (hu' : U64T us) (h : ∀ f, lin f ts = lin f us) (h1 : (polMake o ts).1 = 0) (h2 : (polMake o us).1 = 0) : polMake o ts = polMake o us := by
  obtain ⟨a1, _, _, a3⟩ := polMake_ok hu h1
  obtain ⟨b1, _, _, b3⟩ := polMake_ok hu' h2
  exact Prod.ext (h1.trans h2.symm) (canon_ext a1 b1 fun f => by rw [a3, b3, h])
/-- what is in the one form is made to itself -/
theorem insD_last {o : Int} {t : TermD} {al : List TermD} (h : ∀ p ∈ al, ¬ monCmp o p.m t.m < 0) : insD o t al = al ++ [t] := by
  induction al with
  | nil => rfl
  | cons p al ih =>
    unfold insD
    rw [if_neg (h p (by simp)), ih (fun q hq => h q (by simp [hq]))]; rfl
end Go.Proofs.YtidjbiopneoeeaaGreat
/- What the ninth law's example comes to, on data; rows out of blocks. No condition. -/
namespace Go.Proofs.YtidjbiopneoeeaaGreat
open Go.RowKit

def xM : MonD := ⟨1, 0, 0, 0⟩
def yM : MonD := ⟨0, 1, 0, 0⟩
theorem ofD_small {n : Int} (h : n.natAbs < 18446744073709551616) : GoodR (ofD n) := ofD_good (Nat.lt_of_lt_of_le h (by decide))
theorem ofD_num {n : Int} (h : n ≠ 0) : (ofD n).num.length ≠ 0 := fun e => by
  have := limbs_nil.1 (List.eq_nil_of_length_eq_zero (show (limbs n.natAbs).length = 0 from e))
  omega
theorem ofD_short (n : Int) (h : n.natAbs < 18446744073709551616) : (ofD n).short := by
  obtain ⟨h1, h2, _⟩ := ratMay_of (ofD_small h).may
  have := natMay_len h1
  have := natMay_len h2
  exact ⟨by omega, by omega⟩
theorem right_int {n : Int} {m : MonD} (h : n.natAbs < 18446744073709551616) (hm : monMay m = true) : right ⟨ofD n, m⟩ = true := by
  unfold right
  rw [(ofD_small h).may, hm]; rfl
theorem shown_eval : polAdd 0 [[⟨ofD 1, xM⟩, ⟨ofD 1, yM⟩], [⟨ofD (-1), yM⟩]] = (0, [⟨ofD 1, xM⟩]) := by
  have hx : monMay xM = true := by decide
  have hy : monMay yM = true := by decide
  have r1 := right_int (n := 1) (by decide) hx
  have r2 := right_int (n := 1) (by decide) hy
  have r3 := right_int (n := -1) (by decide) hy
  have n1 : (ofD 1).num.length ≠ 0 := ofD_num (by decide)
  have n3 : (ofD (-1)).num.length ≠ 0 := ofD_num (by decide)
  have n0 : (ofD 0).num.length = 0 := by show (limbs 0).length = 0; rw [limbs_zero]; rfl
  have cxy : monCmp 0 xM yM = 1 := by decide
  have cyy : monCmp 0 yM yM = 0 := by decide
  have p1 : polMay 0 [⟨ofD 1, xM⟩, ⟨ofD 1, yM⟩] = true := by
    unfold polMay
    simp only [List.length_cons, List.length_nil, show List.range (0 + 1 + 1) = [0, 1] from rfl, List.all_cons, List.all_nil]
    rw [okAt_of (t := ⟨ofD 1, xM⟩) rfl, okAt_of (t := ⟨ofD 1, yM⟩) rfl]
    unfold right at r1 r2
    simp only [Bool.and_eq_true] at r1 r2
    simp [r1.1, r1.2, r2.2, n1, cxy, ordered]
  have p2 : polMay 0 [⟨ofD (-1), yM⟩] = true := by
    unfold polMay
    simp only [List.length_cons, List.length_nil, show List.range (0 + 1) = [0] from rfl, List.all_cons, List.all_nil]
    rw [okAt_of (t := ⟨ofD (-1), yM⟩) rfl]
    unfold right at r3
    simp only [Bool.and_eq_true] at r3
    simp [r3.1, r3.2, n3, ordered]
  have hadd : addD (ofD 1) (ofD (-1)) = (0, ofD 0) := addD_int (by decide) (by decide)
  have hne : xM ≠ yM := by decide
  unfold polAdd
  rw [show [[⟨ofD 1, xM⟩, ⟨ofD 1, yM⟩], [⟨ofD (-1), yM⟩]].all (polMay 0) = true by simp [p1, p2], if_neg (by simp)]
  have hput : putAll 0 [] [⟨ofD 1, xM⟩, ⟨ofD 1, yM⟩, ⟨ofD (-1), yM⟩] = (0, [⟨ofD 1, xM⟩, ⟨ofD 0, yM⟩]) := by
    simp [putAll, putD, hasM, insD, hne, cxy, getM, setM, hadd]
  unfold polMake
  rw [show ([[⟨ofD 1, xM⟩, ⟨ofD 1, yM⟩], [⟨ofD (-1), yM⟩]] : List (List TermD)).flatten = [⟨ofD 1, xM⟩, ⟨ofD 1, yM⟩, ⟨ofD (-1), yM⟩] from rfl, hput]
  have hodd : anyOdd [⟨ofD 1, xM⟩, ⟨ofD 1, yM⟩, ⟨ofD (-1), yM⟩] = false := by unfold anyOdd; simp [r1, r2, r3]
  rw [hodd]
  simp [ordered, nz, n1, n0]

section
variable {W : World} {b0 g : Nat}
theorem Rd.of_bk {t : TypeId} {cs : Array Value} (h : Bk W g t cs) (n sz : Nat) (hs : cs.size = n * sz) : Rd W W.heap.size sz (some ⟨g, 0, none⟩) n cs.toList := by
  refine ⟨by simpa using hs, fun _ => ⟨_, rfl, h.lt, fun j u hu => ?_⟩⟩
  rw [show ((⟨g, 0, none⟩ : Addr).add j) = ⟨g, j, none⟩ by rw [add_win, Nat.zero_add], h.cell]
  simpa using hu
theorem tc_of {s : TermD} {A B : Option Addr} {c d : Nat} (h : RTerm W b0 (.agg (s.v A c B d)) s) : TC W b0 s (s.v A c B d).toList := by
  obtain ⟨x1, x2, x3, x4, e, y1, y2, y3, y4⟩ := h
  simp only [TermD.v, Value.agg.injEq, Array.mk.injEq, List.cons.injEq, Value.slice.injEq, true_and, and_true] at e
  obtain ⟨⟨rfl, rfl⟩, rfl, rfl⟩ := e
  exact ⟨_, _, _, _, rfl, y1, y2, y3, y4⟩
theorem rpol_bk1 {t : TypeId} {s : TermD} {A B : Option Addr} {c d : Nat} (hk : Bk W g t (s.v A c B d)) (h : RTerm W b0 (.agg (s.v A c B d)) s) : RPol W b0 (some ⟨g, 0, none⟩) [s] :=
  ⟨_, Rd.of_bk hk 1 7 rfl, by simpa using TCs.cons (tc_of h) .nil⟩
theorem rpol_bk2 {t : TypeId} {s s' : TermD} {A B A' B' : Option Addr} {c d c' d' : Nat} (hk : Bk W g t (s.v A c B d ++ s'.v A' c' B' d')) (h : RTerm W b0 (.agg (s.v A c B d)) s) (h' : RTerm W b0 (.agg (s'.v A' c' B' d')) s') : RPol W b0 (some ⟨g, 0, none⟩) [s, s'] :=
  ⟨_, Rd.of_bk hk 2 7 rfl, by
    have := TCs.cons (tc_of h) (TCs.cons (tc_of h') .nil)
    simpa using this⟩
theorem rpols_bk2 {t : TypeId} {p q : List TermD} {A B : Option Addr} {c d : Nat} (hk : Bk W g t #[.slice A p.length c, .slice B q.length d]) (h : RPol W b0 A p) (h' : RPol W b0 B q) (hc : p.length ≤ c) (hd : q.length ≤ d) : RPols W b0 (some ⟨g, 0, none⟩) [p, q] := by
  refine ⟨_, Rd.of_bk hk 2 1 rfl, fun j r hj => ?_⟩
  match j, hj with
  | 0, hj => injection hj with hj; subst hj; exact ⟨_, _, rfl, hc, h⟩
  | 1, hj => injection hj with hj; subst hj; exact ⟨_, _, rfl, hd, h'⟩
  | n + 2, hj => cases hj
end
end Go.Proofs.YtidjbiopneoeeaaGreat
