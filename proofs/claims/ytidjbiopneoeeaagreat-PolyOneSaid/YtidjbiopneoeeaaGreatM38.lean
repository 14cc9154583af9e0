/- Parts of the proof, joined: what each says stands at its head. -/
import Derived.Test.YtidjbiopneoeeaaGreatM34
set_option linter.unusedVariables false
set_option linter.unusedSimpArgs false
/- Terms stored into a row of the call's own; the exchange of two of them. No condition. -/
namespace Go.Proofs.YtidjbiopneoeeaaGreat
open Go.RowKit

/-- seven cells of a block, stored -/
def setT (w : World) (g i : Nat) (v0 v1 v2 v3 v4 v5 v6 : Value) : World := ((((((w.setCell ⟨g, i, none⟩ v0).setCell ⟨g, i + 1, none⟩ v1).setCell ⟨g, i + 2, none⟩ v2).setCell ⟨g, i + 3, none⟩ v3).setCell ⟨g, i + 4, none⟩ v4).setCell ⟨g, i + 5, none⟩ v5).setCell ⟨g, i + 6, none⟩ v6
def setL (cs : List Value) (i : Nat) (v0 v1 v2 v3 v4 v5 v6 : Value) : List Value := ((((((cs.set i v0).set (i + 1) v1).set (i + 2) v2).set (i + 3) v3).set (i + 4) v4).set (i + 5) v5).set (i + 6) v6
section
variable {w w0 : World} {b0 base B g i n c : Nat} {v0 v1 v2 v3 v4 v5 v6 : Value}
theorem setT_grown (w : World) (g i : Nat) (v0 v1 v2 v3 v4 v5 v6 : Value) : w.grownBy (setT w g i v0 v1 v2 v3 v4 v5 v6) (some g) :=
  (((((((set_grown w ⟨g, i, none⟩ v0).set (i + 1) v1).set (i + 2) v2).set (i + 3) v3).set (i + 4) v4).set (i + 5) v5).set (i + 6) v6)
theorem Below.setT (h : Below B w0 w) (hg : B ≤ g) : Below B w0 (setT w g i v0 v1 v2 v3 v4 v5 v6) :=
  ((((((h.setCell hg _).setCell hg _).setCell hg _).setCell hg _).setCell hg _).setCell hg _).setCell hg _
theorem setL_right {cs ds : List Value} (h : cs.length = 7) (k : Nat) : setL (cs ++ ds) ((k + 1) * 7) v0 v1 v2 v3 v4 v5 v6 = cs ++ setL ds (k * 7) v0 v1 v2 v3 v4 v5 v6 := by
  have key : ∀ (j : Nat) (v : Value) (ds : List Value), (cs ++ ds).set ((k + 1) * 7 + j) v = cs ++ ds.set (k * 7 + j) v := fun j v ds => by
    rw [List.set_append_right _ _ (by omega), h, show (k + 1) * 7 + j - 7 = k * 7 + j by omega]
  unfold setL
  rw [show (cs ++ ds).set ((k + 1) * 7) v0 = cs ++ ds.set (k * 7) v0 from key 0 v0 ds, key 1, key 2, key 3, key 4, key 5, key 6]
theorem setL_here {cs ds : List Value} (h : cs.length = 7) : setL (cs ++ ds) 0 v0 v1 v2 v3 v4 v5 v6 = [v0, v1, v2, v3, v4, v5, v6] ++ ds := by
  match cs, h with
  | [a0, a1, a2, a3, a4, a5, a6], _ => rfl
theorem TCs.set {l : List TermD} {cs : List Value} {s : TermD} (h : TCs w b0 l cs) (hs : TC w b0 s [v0, v1, v2, v3, v4, v5, v6]) {k : Nat} (hk : k < l.length) : TCs w b0 (l.set k s) (setL cs (k * 7) v0 v1 v2 v3 v4 v5 v6) := by
  induction h generalizing k with
  | nil => cases hk
  | @cons t ts cs ds h hts ih =>
    cases k with
    | zero =>
      rw [Nat.zero_mul, setL_here h.len, List.set_cons_zero]
      exact .cons hs hts
    | succ k =>
      rw [setL_right h.len, List.set_cons_succ]
      exact .cons h (ih (by simpa using hk))
theorem OwnT.setT {l : List TermD} {s : TermD} (h : OwnT w b0 base (.slice (some ⟨g, 0, none⟩) n c) l) (hn : n = l.length) (hb : b0 ≤ base) (hs : TC w b0 s [v0, v1, v2, v3, v4, v5, v6]) {k : Nat} (hk : k < l.length) :
    OwnT (setT w g (k * 7) v0 v1 v2 v3 v4 v5 v6) b0 base (.slice (some ⟨g, 0, none⟩) n c) (l.set k s) := by
  subst hn
  obtain ⟨cs, h1, h2⟩ := h
  have hr := own_row_ok h1 hb (by decide)
  have hg := setT_grown w g (k * 7) v0 v1 v2 v3 v4 v5 v6
  have hr' : ∀ g', some g = some g' → b0 ≤ g' ∧ ∃ t cs, Bk w g' t cs ∧ t ≠ 106 := fun g' e => hr g' (by rw [← e]; rfl)
  refine ⟨setL cs (k * 7) v0 v1 v2 v3 v4 v5 v6, ?_, (h2.set hs hk).grown hg hr'⟩
  rw [List.length_set]
  exact ((((((((h1.stored (k * 7) v0).1.stored (k * 7 + 1) v1).1.stored (k * 7 + 2) v2).1.stored (k * 7 + 3) v3).1.stored (k * 7 + 4) v4).1.stored (k * 7 + 5) v5).1.stored (k * 7 + 6) v6).1)
end
def swapT (l : List TermD) (k : Nat) (s t : TermD) : List TermD := (l.set 0 t).set k s
theorem swapT_perm {l : List TermD} {k : Nat} {s t : TermD} (h0 : l[0]? = some s) (hk : l[k]? = some t) : (swapT l k s t).Perm l := by
  obtain ⟨p0, e0⟩ := List.getElem?_eq_some_iff.1 h0
  obtain ⟨pk, ek⟩ := List.getElem?_eq_some_iff.1 hk
  have := List.set_set_perm p0 pk
  rw [e0, ek] at this
  exact this
/-- a row of terms that comes to a polynomial, whatever is exchanged, and whatever is put to it and taken away -/
structure Splits (M : Nat) (p l : List TermD) : Prop where
  ints : Ints M l
  lin : ∀ f, lin f l = lin f p
theorem Splits.go {M : Nat} {p l : List TermD} (h : Splits M p l) {k : Nat} {s t u : TermD} (h0 : l[0]? = some s) (hk : l[k]? = some t) (hu : u ∈ l) {x : Int} (hx : 0 ≤ x ∧ x ≤ 255) :
    Splits (M + 510) p (swapT l k s t ++ [⟨ofD x, u.m⟩, ⟨ofD (-x), u.m⟩]) := by
  have hp := swapT_perm h0 hk
  have hm := h.ints.good u hu
  refine ⟨?_, fun f => by rw [lin_pair, lin_perm f hp, h.lin]⟩
  have h1 := (Ints.one (n := x) hm).app (Ints.one (n := -x) hm)
  exact ((h.ints.perm hp.symm).app h1).le (by omega)
theorem swap_own {w w0 : World} {b0 base g n c k : Nat} {l : List TermD} {s t : TermD} {A1 B1 A2 B2 : Option Addr} {c1 d1 c2 d2 : Nat} (hO : OwnT w b0 base (.slice (some ⟨g, 0, none⟩) n c) l) (hn : n = l.length) (hb : b0 ≤ base) (hbg : base ≤ g) (hB : Below base w0 w) (h0 : 0 < l.length) (hk : k < l.length)
    (hs : RTerm w b0 (.agg (s.v A1 c1 B1 d1)) s) (ht : RTerm w b0 (.agg (t.v A2 c2 B2 d2)) t) :
    OwnT (setT (setT w g (0 * 7) (.bool t.c.neg) (.slice A2 t.c.num.length c2) (.slice B2 t.c.den.length d2) (.int .i64 t.m.x0) (.int .i64 t.m.x1) (.int .i64 t.m.x2) (.int .i64 t.m.x3)) g (k * 7) (.bool s.c.neg) (.slice A1 s.c.num.length c1) (.slice B1 s.c.den.length d1) (.int .i64 s.m.x0) (.int .i64 s.m.x1) (.int .i64 s.m.x2) (.int .i64 s.m.x3)).drew b0 base (.slice (some ⟨g, 0, none⟩) n c) (swapT l k s t) ∧
      Below base w0 (setT (setT w g (0 * 7) (.bool t.c.neg) (.slice A2 t.c.num.length c2) (.slice B2 t.c.den.length d2) (.int .i64 t.m.x0) (.int .i64 t.m.x1) (.int .i64 t.m.x2) (.int .i64 t.m.x3)) g (k * 7) (.bool s.c.neg) (.slice A1 s.c.num.length c1) (.slice B1 s.c.den.length d1) (.int .i64 s.m.x0) (.int .i64 s.m.x1) (.int .i64 s.m.x2) (.int .i64 s.m.x3)).drew := by
  obtain ⟨cs, h1, h2⟩ := hO
  have hr := own_row_ok h1 hb (by decide)
  have O1 := OwnT.setT ⟨cs, h1, h2⟩ hn hb (tc_of ht) (k := 0) h0
  have hs' := hs.grown (setT_grown w g (0 * 7) (.bool t.c.neg) (.slice A2 t.c.num.length c2) (.slice B2 t.c.den.length d2) (.int .i64 t.m.x0) (.int .i64 t.m.x1) (.int .i64 t.m.x2) (.int .i64 t.m.x3)) (fun g' e => hr g' (by rw [← e]; rfl))
  have O2 := O1.setT (by rw [List.length_set]; exact hn) hb (tc_of hs') (k := k) (by rw [List.length_set]; exact hk)
  exact ⟨O2.up (Below.refl _ _).drew, (Below.setT (Below.setT hB hbg) hbg).drew⟩
theorem swapT_len {l : List TermD} {k : Nat} {s t : TermD} : (swapT l k s t).length = l.length := by unfold swapT; rw [List.length_set, List.length_set]
theorem swapT_zero {l : List TermD} {k : Nat} {s t : TermD} (h : 0 < l.length) (hk : k = 0 → s = t) : (swapT l k s t)[0]? = some t := by
  unfold swapT
  rw [List.getElem?_set]
  split
  · rename_i e
    rw [List.length_set, if_pos (by omega), hk e]
  · rw [List.getElem?_set, if_pos rfl, if_pos h]
/-- an append onto a row of the call's own leaves the row's old cells as they were, in their old place -/
theorem append_keep {P : Program} {w w' : World} {base g n cap : Nat} {t ty e : TypeId} {i : TypeInfo} {z : Value} {sz bytes : Nat} {xs news : List Value} {ad : Addr} {m c : Nat} {v' : Value}
    (ht : P.underlying t = some (.slice e)) (hi : P.info? e = some i) (hz : i.zero = some z) (hsize : i.size = sz) (hby : i.bytes = bytes)
    (hown : w.ownsRow base e sz (.slice (some ⟨g, 0, none⟩) n cap) n xs) (hl : news.length = m * sz) (hnews : ∀ j u, news[j]? = some u → w.cell? (ad.add j) = some u) (h1 : ∀ u ∈ news, u.oneCell' = true)
    (h63 : n + m ≤ maxLen) (hbytes : (n + m) * bytes ≤ 140737488355328)
    (hrun : (Builtin.append_ #[t, t] ty #[.slice (some ⟨g, 0, none⟩) n cap, .slice (some ad) m c]).run P w = .ok v' w') (hown' : w'.ownsRow base e sz v' (n + m) (xs ++ news)) :
    ∀ j u, xs[j]? = some u → w'.cell? ⟨g, j, none⟩ = some u := by
  subst hsize hby
  intro j u hj
  have hsmall : n + m ≤ 9223372036854775807 := by simp only [maxLen] at h63; omega
  have holds : ∀ j u, xs[j]? = some u → w.cell? ((⟨g, 0, none⟩ : Addr).add j) = some u := hown.cells (g := g) rfl
  have hold := holds j u hj
  rw [add_win, Nat.zero_add] at hold
  rcases hown.2 with ⟨h, _⟩ | ⟨g', cap', cur, h, hbg, hg, hnc, hcm, hcs, htake⟩
  · cases h
  injection h with e1 e2 e3
  injection e1 with e1
  injection e1 with e1
  subst e1 e3
  by_cases hroom : n + m ≤ cap
  · have hfit : n * i.size + news.length ≤ cur.size := by rw [hl, hcs, ← Nat.add_mul]; exact Nat.mul_le_mul_right _ hroom
    have hr := run_append_room (P := P) w t ty e i ht hi g n cap cur hg ad m c news hl hnews h1 hroom hfit
    rw [hr] at hrun
    injection hrun with e4 e5
    subst e4
    have := hown'.cells (g := g) rfl j u (by rw [List.getElem?_append_left (List.getElem?_eq_some_iff.1 hj).1]; exact hj)
    rwa [add_win, Nat.zero_add] at this
  · have hr := run_append_grow (P := P) w t ty e i z ht hi hz ⟨g, 0, none⟩ n cap xs hown.1 holds ad m c news hl hnews (by omega) (by omega) (growslice_fits (by omega) hbytes)
    rw [hr] at hrun
    injection hrun with e4 e5
    subst e5
    exact cell_up (w := w.drew) hold ((Below.refl _ _).alloc (Nat.le_refl _) _)
theorem step_append_TK {w w0 : World} {ops : Array Oper} {o : Oper} {a : Act} {K : Act → World → Prop} {Q : Exit → Act → World → Prop} {E : Prop} (hgd : o.guard = none) (s x : Operand) (t : TypeId)
    (ho : o.op = .call { callee := .builtin .append, args := #[s, x], argTypes := #[t, t] }) (ht : Tryz.prog.underlying t = some (.slice 67))
    {b0 base B g n cap : Nat} {ds us : List TermD} {A : Option Addr} {m c : Nat} (hs : a.eval s = .slice (some ⟨g, 0, none⟩) n cap) (hx : a.eval x = .slice A m c) (hm : m = us.length) (hu : 0 < us.length) (hn : n = ds.length) (hO : OwnT w b0 base (.slice (some ⟨g, 0, none⟩) n cap) ds) (hR : RPol w b0 A us)
    (hb : b0 ≤ base) (hlen : ds.length + us.length ≤ 1000000) (hB : Below B w0 w) (hBb : B ≤ base) (hbase : base ≤ w.heap.size)
    (h : ∀ v' w', Apd b0 base B w0 w w' (.slice (some ⟨g, 0, none⟩) n cap) v' ds us → (∀ j u, j < ds.length * 7 → w.cell? ⟨g, j, none⟩ = some u → w'.cell? ⟨g, j, none⟩ = some u) → K (a.put o.dst v') w') : if Region.wanted o (yielded ops a.tmps) = true then Oper.wp Tryz.prog o a w K Q else E := by
  subst hm hn
  obtain ⟨i0, hi0, hz0, hz1, hz2⟩ := info_split Tryz.infTerm
  obtain ⟨cs, o1, o2⟩ := hO
  obtain ⟨ds', r1, r2⟩ := hR
  obtain ⟨ad, rfl, hab, hcells⟩ := r1.2 hu
  have hw : Region.wanted o (yielded ops a.tmps) = true := by simp [Region.wanted, hgd]
  rw [if_pos hw]
  obtain ⟨v', w', hrun, h1, hg, _⟩ := run_append_rd (P := Tryz.prog) w base t o.type 67 i0 _ 7 88 ht hi0 hz0 hz1 hz2 rfl (by decide) _ ds.length cs o1 _ (some ad) us.length c ds' r1 r2.one (by unfold maxLen; omega) (by omega) hbase
  have keep := append_keep ht hi0 hz0 hz1 hz2 o1 r1.1 hcells r2.one (by unfold maxLen; omega) (by omega) hrun h1
  have hr := own_row_ok o1 hb (by decide)
  unfold Oper.wp execOp
  simp only [ho, resolve, invoke, builtin, Sem.run_bind, Sem.run_pure, Result.andThen_ok, List.map_toArray, List.map_cons, List.map_nil, hs, hx, hrun]
  refine h v' w' ⟨OwnT.app o1 o2 r2 hb hg h1, hB.grown hg (Nat.le_trans hBb hbase) (fun k hk => Nat.le_trans hBb (own_bk o1 hk).2), hg.size, fun hk hlt => hk.grown hg (fun e => ?_), fun hr' => hr'.grown hg hr, fun hr' => hr'.grown hg hr⟩ fun j u hj hu => ?_
  · have := (own_bk o1 e.symm).2
    omega
  · have hjl : j < cs.length := by rw [o2.len]; exact hj
    have h5 := keep j cs[j] (List.getElem?_eq_getElem hjl)
    have h6 := o1.cells (g := g) rfl j cs[j] (List.getElem?_eq_getElem hjl)
    rw [add_win, Nat.zero_add, hu] at h6
    rw [h5, ← h6]
end Go.Proofs.YtidjbiopneoeeaaGreat
