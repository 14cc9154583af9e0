/- Parts of the proof, joined: each theorem says what it shows. -/
import Derived.Test.YtgjkgkgieeoalaaGreatC17
import Derived.Test.YtgjkgkgieeoalaaGreatC03
set_option linter.unusedVariables false
set_option linter.unusedSimpArgs false
set_option maxHeartbeats 24000000
set_option maxRecDepth 100000
namespace Go.Proofs.YtgjkgkgieeoalaaGreat
open Go.RowKit
structure TermD where
 c : RatD
 m : MonD
def RTerm (w : World) (b0 : Nat) (v : Value) (t : TermD) : Prop :=
 ∃ A c B d, v = .agg #[.bool t.c.neg, .slice A t.c.num.length c, .slice B t.c.den.length d, .int .i64 t.m.x0, .int .i64 t.m.x1, .int .i64 t.m.x2, .int .i64 t.m.x3] ∧
  t.c.num.length ≤ c ∧ t.c.den.length ≤ d ∧ RRow w b0 A t.c.num ∧ RRow w b0 B t.c.den
section
variable {w w' : World} {b0 b1 : Nat} {v : Value} {t : TermD}
theorem RTerm.up (h : RTerm w b0 v t) (hb : Below w.heap.size w w') : RTerm w' b0 v t := let ⟨A, c, B, d, e, h1, h2, h3, h4⟩ := h; ⟨A, c, B, d, e, h1, h2, h3.up hb, h4.up hb⟩
theorem RTerm.more (h : RTerm w b0 v t) (hb : b0 ≤ b1) : RTerm w b1 v t := let ⟨A, c, B, d, e, h1, h2, h3, h4⟩ := h; ⟨A, c, B, d, e, h1, h2, h3.more hb, h4.more hb⟩
end
def right (t : TermD) : Bool := ratMay t.c && monMay t.m
theorem Bk.seven {w : World} {g : Nat} {t : TypeId} {v0 v1 v2 v3 v4 v5 v6 : Value} (h : Bk w g t #[v0, v1, v2, v3, v4, v5, v6]) : (w.cell? ⟨g, 0, none⟩ = some v0 ∧ w.cell? ⟨g, 1, none⟩ = some v1 ∧ w.cell? ⟨g, 2, none⟩ = some v2) ∧
    w.cell? ⟨g, 3, none⟩ = some v3 ∧ w.cell? ⟨g, 4, none⟩ = some v4 ∧ w.cell? ⟨g, 5, none⟩ = some v5 ∧ w.cell? ⟨g, 6, none⟩ = some v6 := by
 refine ⟨⟨?_, ?_, ?_⟩, ?_, ?_, ?_, ?_⟩ <;> (rw [h.cell]; rfl)
theorem poly_right (b0 : Nat) (v : Value) (t : TermD) (w : World) (h : RTerm w b0 v t) (hs : t.c.short) :
    Calls Tryz.prog 164 #[v] w fun e w' => e = .returned (.bool (right t)) ∧ Below w.heap.size w w' := by
 obtain ⟨A, c, B, d, rfl, h1, h2, h3, h4⟩ := h
 have HR : Hd (RRat w b0 (.agg #[.bool t.c.neg, .slice A t.c.num.length c, .slice B t.c.den.length d]) t.c) := ⟨A, c, B, d, rfl, h1, h2, h3, h4⟩
 clear h3 h4
 have M1 := Hd.mk (fun W hW => ratio_May b0 _ t.c W (HR.out.up hW) hs)
 have M2 := Hd.mk (fun W => mono_May t.m W)
 go_enter Tryz.func164, Tryz.ntmps164
 go_upto_region 1 with (fail)
 refine wp_gen (fun W => Below w.heap.size w W ∧ Bk W w.heap.size 68 #[.bool t.c.neg, .slice A t.c.num.length c, .slice B t.c.den.length d, .int .i64 t.m.x0, .int .i64 t.m.x1, .int .i64 t.m.x2, .int .i64 t.m.x3]) ⟨(Below.refl _ _).alloc (Nat.le_refl _) _, Bk.new_ _ _ _⟩ ?_
 intro W BX
 obtain ⟨⟨c0, c1, c2⟩, _, _, _, _⟩ := BX.out.2.seven
 have ML := Hd.mk (M1.out W BX.out.1)
 cases hm : ratMay t.c
 ·have HE : Hd (right t = false) := ⟨by unfold right; rw [hm]; rfl⟩
  rw [hm] at ML
  go_wp2_with fail
  refine ML.out.mono ?_
  rintro e w2 ⟨rfl, hb⟩
  have HB := Hd.mk (BX.out.1.trans (hb.mono BX.out.1.size))
  clear hb
  go_wp2_with fail
  go_ret
  exact ⟨retBool HE.out.symm, HB.out⟩
 ·have HE : Hd (right t = monMay t.m) := ⟨by unfold right; rw [hm]; rfl⟩
  rw [hm] at ML
  go_wp2_with fail
  refine ML.out.mono ?_
  rintro e w2 ⟨rfl, hb⟩
  have HB := Hd.mk (BX.out.1.trans (hb.mono BX.out.1.size))
  have k2 := Hd.mk (BX.out.2.up hb)
  obtain ⟨_, c3, c4, c5, c6⟩ := k2.out.seven
  clear hb
  go_wp2_with fail
  refine (M2.out w2).mono ?_
  rintro e w3 ⟨rfl, hb⟩
  have HB3 := Hd.mk (HB.out.trans (hb.lo.mono HB.out.size))
  clear hb
  go_wp2_with fail
  go_ret
  exact ⟨retBool HE.out.symm, HB3.out⟩
def ordered (o : Int) : Bool := decide (0 ≤ o) && decide (o ≤ 2)
theorem poly_ordered (o : Int) (w : World) : Calls Tryz.prog 166 #[.int .i64 o] w fun e w' => e = .returned (.bool (ordered o)) ∧ w = w' := by
 by_cases h1 : 0 ≤ o
 ·have e1 : decide (0 ≤ o) = true := decide_eq_true h1
  have HE : Hd (ordered o = decide (o ≤ 2)) := ⟨by unfold ordered; rw [e1]; rfl⟩
  go_enter Tryz.func166, Tryz.ntmps166
  go_wp2_with fail
  go_ret
  exact ⟨retBool HE.out.symm, rfl⟩
 ·have e1 : decide (0 ≤ o) = false := decide_eq_false h1
  have HE : Hd (ordered o = false) := ⟨by unfold ordered; rw [e1]; rfl⟩
  go_enter Tryz.func166, Tryz.ntmps166
  go_wp2_with fail
  go_ret
  exact ⟨retBool HE.out.symm, rfl⟩
def TC (w : World) (b0 : Nat) (t : TermD) (cs : List Value) : Prop :=
 ∃ A c B d, cs = [.bool t.c.neg, .slice A t.c.num.length c, .slice B t.c.den.length d, .int .i64 t.m.x0, .int .i64 t.m.x1, .int .i64 t.m.x2, .int .i64 t.m.x3] ∧
  t.c.num.length ≤ c ∧ t.c.den.length ≤ d ∧ RRow w b0 A t.c.num ∧ RRow w b0 B t.c.den
theorem TC.len {w : World} {b0 : Nat} {t : TermD} {cs : List Value} (h : TC w b0 t cs) : cs.length = 7 := by obtain ⟨A, c, B, d, rfl, _⟩ := h; rfl
theorem TC.one {w : World} {b0 : Nat} {t : TermD} {cs : List Value} (h : TC w b0 t cs) : ∀ u ∈ cs, u.oneCell' = true := by
 obtain ⟨A, c, B, d, rfl, _⟩ := h
 intro u hu
 simp at hu
 rcases hu with rfl | rfl | rfl | rfl | rfl | rfl | rfl <;> rfl
theorem TC.up {w w' : World} {b0 : Nat} {t : TermD} {cs : List Value} (h : TC w b0 t cs) (hb : Below w.heap.size w w') : TC w' b0 t cs := let ⟨A, c, B, d, e, h1, h2, h3, h4⟩ := h; ⟨A, c, B, d, e, h1, h2, h3.up hb, h4.up hb⟩
theorem TC.more {w : World} {b0 b1 : Nat} {t : TermD} {cs : List Value} (h : TC w b0 t cs) (hb : b0 ≤ b1) : TC w b1 t cs := let ⟨A, c, B, d, e, h1, h2, h3, h4⟩ := h; ⟨A, c, B, d, e, h1, h2, h3.more hb, h4.more hb⟩
theorem TC.grown {w w' : World} {b0 : Nat} {t : TermD} {cs : List Value} {row : Option Nat} (h : TC w b0 t cs) (hg : w.grownBy w' row) (hr : ∀ g, row = some g → b0 ≤ g ∧ ∃ t cs, Bk w g t cs ∧ t ≠ 112) : TC w' b0 t cs :=
 let ⟨A, c, B, d, e, h1, h2, h3, h4⟩ := h; ⟨A, c, B, d, e, h1, h2, h3.grown hg hr, h4.grown hg hr⟩
inductive TCs (w : World) (b0 : Nat) : List TermD → List Value → Prop
 | nil : TCs w b0 [] []
 | cons {t : TermD} {ts : List TermD} {cs ds : List Value} (h : TC w b0 t cs) (hs : TCs w b0 ts ds) : TCs w b0 (t :: ts) (cs ++ ds)
section
variable {w w' : World} {b0 b1 : Nat} {ts us : List TermD} {cs ds : List Value}
theorem TCs.len (h : TCs w b0 ts cs) : cs.length = ts.length * 7 := by
 induction h with
 | nil => rfl
 | cons h hs ih => rw [List.length_append, h.len, ih, List.length_cons]; omega
theorem TCs.one (h : TCs w b0 ts cs) : ∀ u ∈ cs, u.oneCell' = true := by
 induction h with
 | nil => intro u hu; cases hu
 | cons h hs ih => intro u hu; rcases List.mem_append.1 hu with hu | hu; exact h.one u hu; exact ih u hu
theorem TCs.up (h : TCs w b0 ts cs) (hb : Below w.heap.size w w') : TCs w' b0 ts cs := by
 induction h with
 | nil => exact .nil
 | cons h hs ih => exact .cons (h.up hb) ih
theorem TCs.more (h : TCs w b0 ts cs) (hb : b0 ≤ b1) : TCs w b1 ts cs := by
 induction h with
 | nil => exact .nil
 | cons h hs ih => exact .cons (h.more hb) ih
theorem TCs.grown {row : Option Nat} (h : TCs w b0 ts cs) (hg : w.grownBy w' row) (hr : ∀ g, row = some g → b0 ≤ g ∧ ∃ t cs, Bk w g t cs ∧ t ≠ 112) : TCs w' b0 ts cs := by
 induction h with
 | nil => exact .nil
 | cons h hs ih => exact .cons (h.grown hg hr) ih
theorem TCs.app (h : TCs w b0 ts cs) (h' : TCs w b0 us ds) : TCs w b0 (ts ++ us) (cs ++ ds) := by
 induction h with
 | nil => exact h'
 | cons h hs ih => rw [List.cons_append, List.append_assoc]; exact .cons h ih
theorem TCs.at_ (h : TCs w b0 ts cs) {j : Nat} (hj : j < ts.length) : ∃ es, TC w b0 ts[j] es ∧ ∀ k, k < 7 → cs[j * 7 + k]? = es[k]? := by
 induction h generalizing j with
 | nil => cases hj
 | @cons t ts cs ds h hs ih =>
   cases j with
   | zero => exact ⟨cs, h, fun k hk => by rw [Nat.zero_mul, Nat.zero_add, List.getElem?_append_left (by rw [h.len]; exact hk)]⟩
   | succ j =>
     obtain ⟨es, h1, h2⟩ := ih (by simpa using hj)
     refine ⟨es, h1, fun k hk => ?_⟩
     rw [List.getElem?_append_right (by rw [h.len]; omega), h.len, show (j + 1) * 7 + k - 7 = j * 7 + k by omega]
     exact h2 k hk
end
def RPol (w : World) (b0 : Nat) (A : Option Addr) (ts : List TermD) : Prop := ∃ cs, Rd w w.heap.size 7 A ts.length cs ∧ TCs w b0 ts cs
section
variable {w w' : World} {b0 b1 : Nat} {A : Option Addr} {ts : List TermD}
theorem RPol.up (h : RPol w b0 A ts) (hb : Below w.heap.size w w') : RPol w' b0 A ts := let ⟨cs, h1, h2⟩ := h; ⟨cs, h1.up hb, h2.up hb⟩
theorem RPol.more (h : RPol w b0 A ts) (hb : b0 ≤ b1) : RPol w b1 A ts := let ⟨cs, h1, h2⟩ := h; ⟨cs, h1, h2.more hb⟩
theorem RPol.nil (w : World) (b0 : Nat) (A : Option Addr) : RPol w b0 A [] := ⟨[], Rd.nil, .nil⟩
theorem RPol.at_ (h : RPol w b0 A ts) {j : Nat} (hj : j < ts.length) : ∃ (ad : Addr) (es : List Value), A = some ad ∧ ad.block < w.heap.size ∧ TC w b0 ts[j] es ∧ ∀ k u, es[k]? = some u → w.cell? (ad.add (j * 7 + k)) = some u := by
 obtain ⟨cs, h1, h2⟩ := h
 obtain ⟨ad, e, hb, hc⟩ := h1.2 (by omega)
 obtain ⟨es, h3, h4⟩ := h2.at_ hj
 refine ⟨ad, es, e, hb, h3, fun k u hu => hc _ _ ?_⟩
 have hk : k < 7 := by
  rcases Nat.lt_or_ge k 7 with h | h
  ·exact h
  ·rw [List.getElem?_eq_none (by rw [h3.len]; exact h)] at hu; cases hu
 rw [h4 k hk, hu]
theorem add_pos (ad : Addr) (n k : Nat) (hk : 0 < k) : ad.add (n + k) = ⟨(ad.add n).block, (ad.add n).off + k, none⟩ := by
 unfold Addr.add
 rw [if_neg (by omega)]
 split
 ·subst_vars; simp
 ·simp [Nat.add_assoc]
theorem RPol.get (h : RPol w b0 A ts) {j : Nat} (hj : j < ts.length) : ∃ (ad : Addr) (B1 : Option Addr) (c1 : Nat) (B2 : Option Addr) (c2 : Nat) (t : TermD), A = some ad ∧ ad.block < w.heap.size ∧ Hd (ts[j]? = some t) ∧
    Hd (RTerm w b0 (.agg #[.bool t.c.neg, .slice B1 t.c.num.length c1, .slice B2 t.c.den.length c2, .int .i64 t.m.x0, .int .i64 t.m.x1, .int .i64 t.m.x2, .int .i64 t.m.x3]) t) ∧
    w.cell? (ad.add (j * 7)) = some (.bool t.c.neg) ∧ w.cell? ⟨(ad.add (j * 7)).block, (ad.add (j * 7)).off + 1, none⟩ = some (.slice B1 t.c.num.length c1) ∧ w.cell? ⟨(ad.add (j * 7)).block, (ad.add (j * 7)).off + 2, none⟩ = some (.slice B2 t.c.den.length c2) ∧
    w.cell? ⟨(ad.add (j * 7)).block, (ad.add (j * 7)).off + 3, none⟩ = some (.int .i64 t.m.x0) ∧ w.cell? ⟨(ad.add (j * 7)).block, (ad.add (j * 7)).off + 4, none⟩ = some (.int .i64 t.m.x1) ∧ w.cell? ⟨(ad.add (j * 7)).block, (ad.add (j * 7)).off + 5, none⟩ = some (.int .i64 t.m.x2) ∧ w.cell? ⟨(ad.add (j * 7)).block, (ad.add (j * 7)).off + 6, none⟩ = some (.int .i64 t.m.x3) := by
 obtain ⟨ad, es, e, hb, ⟨B1, c1, B2, c2, rfl, k1, k2, k3, k4⟩, hc⟩ := h.at_ hj
 refine ⟨ad, B1, c1, B2, c2, ts[j], e, hb, ⟨List.getElem?_eq_getElem hj⟩, ⟨B1, c1, B2, c2, rfl, k1, k2, k3, k4⟩, hc 0 _ rfl, ?_, ?_, ?_, ?_, ?_, ?_⟩
 ·rw [← add_pos _ _ 1 (by omega)]; exact hc 1 _ rfl
 ·rw [← add_pos _ _ 2 (by omega)]; exact hc 2 _ rfl
 ·rw [← add_pos _ _ 3 (by omega)]; exact hc 3 _ rfl
 ·rw [← add_pos _ _ 4 (by omega)]; exact hc 4 _ rfl
 ·rw [← add_pos _ _ 5 (by omega)]; exact hc 5 _ rfl
 ·rw [← add_pos _ _ 6 (by omega)]; exact hc 6 _ rfl
end
end Go.Proofs.YtgjkgkgieeoalaaGreat
