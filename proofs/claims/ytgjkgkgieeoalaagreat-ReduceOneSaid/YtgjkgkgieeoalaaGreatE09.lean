/- Parts of the proof, joined: each theorem says what it shows. -/
import Derived.Test.YtgjkgkgieeoalaaGreatE01
import Derived.Test.YtgjkgkgieeoalaaGreatE05
set_option linter.unusedVariables false
set_option linter.unusedSimpArgs false
set_option maxHeartbeats 24000000
set_option maxRecDepth 100000
namespace Go.Proofs.YtgjkgkgieeoalaaGreat
open Go.RowKit
def zeroM : MonD := ⟨0, 0, 0, 0⟩
def addM (a b : MonD) : MonD := ⟨a.x0 + b.x0, a.x1 + b.x1, a.x2 + b.x2, a.x3 + b.x3⟩
def monMul (a b : MonD) : Int × MonD := if (monMay a && monMay b) = false then (1, zeroM) else if monMay (addM a b) = false then (80, zeroM) else (0, addM a b)
structure Bm3 (S g1 g2 g3 : Nat) (w0 w : World) (a b c : MonD) : Prop where
 bm : Bm2 S g1 g2 w0 w a b
 s3 : S ≤ g3
 n13 : g3 ≠ g1
 n23 : g3 ≠ g2
 k3 : Bk w g3 66 #[.int .i64 c.x0, .int .i64 c.x1, .int .i64 c.x2, .int .i64 c.x3]
section
variable {S g1 g2 g3 : Nat} {w0 w w' : World} {a b c : MonD}
theorem Bm3.up (h : Bm3 S g1 g2 g3 w0 w a b c) (hb : Blw w.heap.size w w') : Bm3 S g1 g2 g3 w0 w' a b c := ⟨h.bm.up hb, h.s3, h.n13, h.n23, h.k3.up hb.lo⟩
theorem Bm3.dn (h : Bm3 S g1 g2 g3 w0 w a b c) (n : Nat) : Bm3 S g1 g2 g3 w0 (w.drewN n) a b c := ⟨h.bm.dn n, h.s3, h.n13, h.n23, h.k3⟩
theorem Bm3.mk3 (w : World) (a b c : MonD) : Bm3 w.heap.size w.heap.size (w.heap.size + 1) (w.heap.size + 1 + 1) w (((w.alloc (Obj.cells #[.int .i64 a.x0, .int .i64 a.x1, .int .i64 a.x2, .int .i64 a.x3] 66)).alloc (Obj.cells #[.int .i64 b.x0, .int .i64 b.x1, .int .i64 b.x2, .int .i64 b.x3] 66)).alloc (Obj.cells #[.int .i64 c.x0, .int .i64 c.x1, .int .i64 c.x2, .int .i64 c.x3] 66)) a b c := by
 refine ⟨(Bm2.mk2 w a b).up ((Blw.refl _ _).alloc (ae _) _), by omega, by omega, by omega, ?_⟩
 have := Bk.new_ ((w.alloc (Obj.cells #[.int .i64 a.x0, .int .i64 a.x1, .int .i64 a.x2, .int .i64 a.x3] 66)).alloc (Obj.cells #[.int .i64 b.x0, .int .i64 b.x1, .int .i64 b.x2, .int .i64 b.x3] 66)) 66 #[.int .i64 c.x0, .int .i64 c.x1, .int .i64 c.x2, .int .i64 c.x3]
 simpa using this
theorem Bm3.done (h : Bm3 S g1 g2 g3 w0 w a b c) (x0 x1 x2 x3 : Value) : Bk ((((w.setCell ⟨g3, 0, none⟩ x0).setCell ⟨g3, 1, none⟩ x1).setCell ⟨g3, 2, none⟩ x2).setCell ⟨g3, 3, none⟩ x3) g3 66 #[x0, x1, x2, x3] ∧
    Blw S w0 ((((w.setCell ⟨g3, 0, none⟩ x0).setCell ⟨g3, 1, none⟩ x1).setCell ⟨g3, 2, none⟩ x2).setCell ⟨g3, 3, none⟩ x3) :=
 ⟨h.k3.set4 _ _ _ _, (((h.bm.below.setCell h.s3 _).setCell h.s3 _).setCell h.s3 _).setCell h.s3 _⟩
end
theorem mono_Mul (a b : MonD) (w : World) :
    Calls Tryz.prog 176 #[.agg #[.int .i64 a.x0, .int .i64 a.x1, .int .i64 a.x2, .int .i64 a.x3], .agg #[.int .i64 b.x0, .int .i64 b.x1, .int .i64 b.x2, .int .i64 b.x3]] w fun e w' =>
     e = .returned (.tuple #[.agg #[.int .i64 (monMul a b).2.x0, .int .i64 (monMul a b).2.x1, .int .i64 (monMul a b).2.x2, .int .i64 (monMul a b).2.x3], .int .i64 (monMul a b).1]) ∧ Blw w.heap.size w w' := by
 obtain ⟨E, hE⟩ : ∃ E, monMul a b = E := ⟨_, rfl⟩
 rw [hE]
 have HEQ := aa hE
 clear hE
 go_enter Tryz.func176, Tryz.ntmps176
 go_upto_region 1 with (fail)
 refine wp_gen (fun W => Bm3 w.heap.size w.heap.size (w.heap.size + 1) (w.heap.size + 1 + 1) w W a b zeroM) (Bm3.mk3 w a b zeroM) ?_
 intro W BX
 generalize w.heap.size + 1 + 1 = g3 at BX ⊢
 generalize w.heap.size + 1 = g2 at BX ⊢
 obtain ⟨c0, c1, c2, c3⟩ := BX.out.bm.k1.four
 have CA := aa (mono_May a W)
 cases hma : monMay a
 ·have HE : Hd (monMul a b = (1, zeroM)) := ⟨by unfold monMul; rw [hma]; rfl⟩
  rw [hma] at CA
  go_wp2_with fail
  refine CA.out.mono ?_
  rintro e w4 ⟨rfl, hb⟩
  have BX4 := aa (BX.out.up hb)
  obtain ⟨e0, e1, e2, e3⟩ := BX4.out.k3.four
  have fz := fun i => BX4.out.k3.froz i
  clear hb
  go_wp2_with fail
  obtain ⟨d1, d2⟩ := BX4.out.done (.int .i64 0) (.int .i64 0) (.int .i64 0) (.int .i64 0)
  refine bodyPost_ret (res_mono2 rfl _ _ g3 _ rfl d1 rfl) rfl ?_
  have h5 := HEQ.out.symm.trans HE.out
  subst h5
  exact ⟨rfl, d2⟩
 ·rw [hma] at CA
  go_wp2_with fail
  refine CA.out.mono ?_
  rintro e w4 ⟨rfl, hb⟩
  have BX4 := aa (BX.out.up hb)
  obtain ⟨p0, p1, p2, p3⟩ := BX4.out.bm.k2.four
  have CB := aa (mono_May b w4)
  clear hb c0 c1 c2 c3 BX CA
  cases hmb : monMay b
  ·have HE : Hd (monMul a b = (1, zeroM)) := ⟨by unfold monMul; rw [hmb]; simp⟩
   rw [hmb] at CB
   go_wp2_with fail
   refine CB.out.mono ?_
   rintro e w5 ⟨rfl, hb⟩
   have BX5 := aa (BX4.out.up hb)
   obtain ⟨e0, e1, e2, e3⟩ := BX5.out.k3.four
   have fz := fun i => BX5.out.k3.froz i
   clear hb
   go_wp2_with fail
   obtain ⟨d1, d2⟩ := BX5.out.done (.int .i64 0) (.int .i64 0) (.int .i64 0) (.int .i64 0)
   refine bodyPost_ret (res_mono2 rfl _ _ g3 _ rfl d1 rfl) rfl ?_
   have h5 := HEQ.out.symm.trans HE.out
   subst h5
   exact ⟨rfl, d2⟩
  ·rw [hmb] at CB
   have HE : Hd (monMul a b = if monMay (addM a b) = false then (80, zeroM) else (0, addM a b)) := ⟨by unfold monMul; rw [hma, hmb]; rfl⟩
   obtain ⟨z, hz⟩ : ∃ z, z = addM a b := ⟨_, rfl⟩
   rw [← hz] at HE
   have ZP := aa (fun W => zip_mul a b z hz W hma hmb)
   clear hma hmb hz
   go_wp2_with fail
   refine CB.out.mono ?_
   rintro e w5 ⟨rfl, hb⟩
   have BX5 := aa (BX4.out.up hb)
   obtain ⟨c0, c1, c2, c3⟩ := BX5.out.bm.k1.four
   obtain ⟨p0, p1, p2, p3⟩ := BX5.out.bm.k2.four
   clear hb CB
   go_wp2_with fail
   refine (ZP.out w5).mono ?_
   rintro e w6 ⟨rfl, hb⟩
   have BX6 := aa (BX5.out.up hb)
   clear hb ZP
   go_upto_region 4 with (fail)
   refine wp_gen (fun W => Bm3 w.heap.size w.heap.size g2 g3 w W a b zeroM ∧ Bk W w6.heap.size 66 #[.int .i64 z.x0, .int .i64 z.x1, .int .i64 z.x2, .int .i64 z.x3]) ⟨BX6.out.up ((Blw.refl _ _).alloc (ae _) _), Bk.new_ _ _ _⟩ ?_
   intro W7 BY
   generalize w6.heap.size = g4 at BY ⊢
   obtain ⟨q0, q1, q2, q3⟩ := BY.out.2.four
   have CM := aa (mono_May z W7)
   cases hmz : monMay z
   ·rw [hmz] at CM HE
    go_wp2_with fail
    refine CM.out.mono ?_
    rintro e w8 ⟨rfl, hb⟩
    have BX8 := aa (BY.out.1.up hb)
    obtain ⟨e0, e1, e2, e3⟩ := BX8.out.k3.four
    have fz := fun i => BX8.out.k3.froz i
    clear hb
    go_wp2_with fail
    obtain ⟨d1, d2⟩ := BX8.out.done (.int .i64 0) (.int .i64 0) (.int .i64 0) (.int .i64 0)
    refine bodyPost_ret (res_mono2 rfl _ _ g3 _ rfl d1 rfl) rfl ?_
    have h5 := HEQ.out.symm.trans HE.out
    simp only [if_pos] at h5
    subst h5
    exact ⟨rfl, d2⟩
   ·rw [hmz] at CM HE
    go_wp2_with fail
    refine CM.out.mono ?_
    rintro e w8 ⟨rfl, hb⟩
    have BX8 := aa (BY.out.1.up hb)
    have K8 := aa (BY.out.2.up hb.lo)
    obtain ⟨q0, q1, q2, q3⟩ := K8.out.four
    obtain ⟨e0, e1, e2, e3⟩ := BX8.out.k3.four
    have fz := fun i => BX8.out.k3.froz i
    clear hb
    go_wp2_with fail
    obtain ⟨d1, d2⟩ := BX8.out.done (.int .i64 z.x0) (.int .i64 z.x1) (.int .i64 z.x2) (.int .i64 z.x3)
    refine bodyPost_ret (res_mono2 rfl _ _ g3 _ rfl d1 rfl) rfl ?_
    have h5 := HEQ.out.symm.trans HE.out
    simp at h5
    subst h5
    exact ⟨rfl, d2⟩
end Go.Proofs.YtgjkgkgieeoalaaGreat
namespace Go.Proofs.YtgjkgkgieeoalaaGreat
theorem cmpI_anti (x y : Int) : cmpI y x = - cmpI x y := by unfold cmpI; split <;> split <;> (try split) <;> omega
theorem cmpI_zero {x y : Int} : cmpI x y = 0 ↔ x = y := by unfold cmpI; split <;> (try split) <;> omega
theorem cmpI_le {x y : Int} : cmpI x y ≤ 0 ↔ x ≤ y := by unfold cmpI; split <;> (try split) <;> omega
theorem cmpI_neg (x y : Int) : cmpI (-x) (-y) = cmpI y x := by unfold cmpI; split <;> split <;> (try split) <;> (try split) <;> omega
theorem cmpI_add (x y z : Int) : cmpI (x + z) (y + z) = cmpI x y := by unfold cmpI; split <;> split <;> (try split) <;> (try split) <;> omega
theorem lexC_anti : ∀ l m : List Int, lexC m l = - lexC l m
 | [], [] => rfl
 | [], _ :: _ => rfl
 | _ :: _, [] => rfl
 | x :: l, y :: m => by
   simp only [lexC]
   have := cmpI_anti x y
   by_cases h : cmpI x y = 0
   ·rw [if_neg (by omega), if_neg (by omega)]; exact lexC_anti l m
   ·rw [if_pos (by omega), if_pos h]; exact this
theorem lexC_self : ∀ l : List Int, lexC l l = 0 := fun l => by have := lexC_anti l l; omega
theorem lexC_zero : ∀ {l m : List Int}, l.length = m.length → lexC l m = 0 → l = m
 | [], [], _, _ => rfl
 | x :: l, y :: m, hl, h => by
   simp only [lexC] at h
   by_cases h1 : cmpI x y = 0
   ·rw [if_neg (by omega)] at h
    rw [cmpI_zero.1 h1, lexC_zero (by simpa using hl) h]
   ·rw [if_pos h1] at h; exact absurd h h1
theorem lexC_trans : ∀ {l m n : List Int}, l.length = m.length → m.length = n.length → lexC l m ≤ 0 → lexC m n ≤ 0 → lexC l n ≤ 0
 | [], [], [], _, _, _, _ => by simp [lexC]
 | x :: l, y :: m, z :: n, h1, h2, h3, h4 => by
   simp only [lexC] at *
   have ih := lexC_trans (l := l) (m := m) (n := n) (by simpa using h1) (by simpa using h2)
   by_cases e1 : cmpI x y = 0
   ·have exy := cmpI_zero.1 e1
    subst exy
    rw [if_neg (by omega)] at h3
    by_cases e2 : cmpI x z = 0
    ·rw [if_neg (by omega)] at h4 ⊢; exact ih h3 h4
    ·rw [if_pos e2] at h4 ⊢; exact h4
   ·rw [if_pos e1] at h3
    have g1 := cmpI_le.1 h3
    have g1' : x ≠ y := fun e => e1 (cmpI_zero.2 e)
    by_cases e2 : cmpI y z = 0
    ·have eyz := cmpI_zero.1 e2
     subst eyz
     rw [if_pos e1]; exact h3
    ·rw [if_pos e2] at h4
     have g2 := cmpI_le.1 h4
     have g3 : cmpI x z ≠ 0 := fun e => by have := cmpI_zero.1 e; omega
     rw [if_pos g3]; exact cmpI_le.2 (by omega)
def addL : List Int → List Int → List Int
 | x :: l, y :: m => (x + y) :: addL l m
 | _, _ => []
theorem lexC_add : ∀ {l m n : List Int}, l.length = m.length → m.length = n.length → lexC (addL l n) (addL m n) = lexC l m
 | [], [], [], _, _ => rfl
 | x :: l, y :: m, z :: n, h1, h2 => by
   simp only [addL, lexC, cmpI_add]
   rw [lexC_add (by simpa using h1) (by simpa using h2)]
def mkey (o : Int) (a : MonD) : List Int :=
 if o = 0 then a.l else if o = 1 then monDeg a :: a.l else monDeg a :: [-a.x3, -a.x2, -a.x1, -a.x0]
theorem mkey_len (o : Int) (a b : MonD) : (mkey o a).length = (mkey o b).length := by unfold mkey; split <;> (try split) <;> rfl
theorem mkey_inj {o : Int} {a b : MonD} (h : mkey o a = mkey o b) : a = b := by
 unfold mkey at h
 cases a; cases b
 split at h
 ·simpa [MonD.l] using h
 ·split at h
  ·simp [MonD.l] at h; simp [h]
  ·simp at h; simp; omega
def oOk (o : Int) : Prop := 0 ≤ o ∧ o ≤ 2
theorem monCmp_key {o : Int} {a b : MonD} (ho : oOk o) (ha : monMay a = true) (hb : monMay b = true) : monCmp o a b = lexC (mkey o a) (mkey o b) := by
 obtain ⟨h1, h2⟩ := ho
 have e : (!monMay a || !monMay b || decide (o < 0) || decide (3 ≤ o)) = false := by
  rw [ha, hb, decide_eq_false (by omega), decide_eq_false (by omega)]; rfl
 unfold monCmp mkey
 rw [e]
 by_cases h0 : o = 0
 ·simp [h0]
 ·by_cases h3 : o = 1
  ·simp [h3, lexC, orI]
  ·simp [h0, h3, lexC, orI, rev, MonD.l, cmpI_neg]
theorem monCmp_anti {o : Int} {a b : MonD} (ho : oOk o) (ha : monMay a = true) (hb : monMay b = true) : monCmp o b a = - monCmp o a b := by
 rw [monCmp_key ho hb ha, monCmp_key ho ha hb]; exact lexC_anti _ _
theorem monCmp_zero {o : Int} {a b : MonD} (ho : oOk o) (ha : monMay a = true) (hb : monMay b = true) : monCmp o a b = 0 ↔ a = b := by
 rw [monCmp_key ho ha hb]
 exact ⟨fun h => mkey_inj (lexC_zero (mkey_len _ _ _) h), fun h => by rw [h]; exact lexC_self _⟩
theorem monCmp_le {o : Int} {a b c : MonD} (ho : oOk o) (ha : monMay a = true) (hb : monMay b = true) (hc : monMay c = true) (h1 : monCmp o a b ≤ 0) (h2 : monCmp o b c ≤ 0) : monCmp o a c ≤ 0 := by
 rw [monCmp_key ho ha hb] at h1
 rw [monCmp_key ho hb hc] at h2
 rw [monCmp_key ho ha hc]
 exact lexC_trans (mkey_len _ _ _) (mkey_len _ _ _) h1 h2
theorem monCmp_lt {o : Int} {a b c : MonD} (ho : oOk o) (ha : monMay a = true) (hb : monMay b = true) (hc : monMay c = true) (h1 : monCmp o a b < 0) (h2 : monCmp o b c < 0) : monCmp o a c < 0 := by
 have h3 := monCmp_le ho ha hb hc (by omega) (by omega)
 rcases Int.lt_or_eq_of_le h3 with h | h
 ·exact h
 ·have e := (monCmp_zero ho ha hc).1 h
  subst e
  have := monCmp_anti ho ha hb
  omega
theorem monCmp_gt {o : Int} {a b c : MonD} (ho : oOk o) (ha : monMay a = true) (hb : monMay b = true) (hc : monMay c = true) (h1 : 0 < monCmp o a b) (h2 : 0 < monCmp o b c) : 0 < monCmp o a c := by
 have e1 := monCmp_anti ho ha hb
 have e2 := monCmp_anti ho hb hc
 have e3 := monCmp_anti ho ha hc
 have := monCmp_lt ho hc hb ha (by omega) (by omega)
 omega
theorem monDeg_of {m : MonD} (h : monMay m = true) : monDeg m = m.x0 + m.x1 + m.x2 + m.x3 := by unfold monDeg; rw [if_pos h]
theorem monCmp_mul {o : Int} {a b c : MonD} (ho : oOk o) (ha : monMay a = true) (hb : monMay b = true) (hc : monMay c = true) (hac : monMay (addM a c) = true) (hbc : monMay (addM b c) = true) : monCmp o (addM a c) (addM b c) = monCmp o a b := by
 rw [monCmp_key ho hac hbc, monCmp_key ho ha hb, ← lexC_add (mkey_len o a b) (mkey_len o b c)]
 have key : ∀ x, monMay x = true → monMay (addM x c) = true → mkey o (addM x c) = addL (mkey o x) (mkey o c) := fun x hx hxc => by
  have d1 := monDeg_of hxc
  have d2 := monDeg_of hx
  have d3 := monDeg_of hc
  unfold mkey
  split
  ·rfl
  ·split
   ·simp only [MonD.l, addL]; rw [d1, d2, d3]; simp only [addM, List.cons.injEq, and_true]; omega
   ·simp only [addL]; rw [d1, d2, d3]; simp only [addM, List.cons.injEq, and_true]; omega
 rw [key a ha hac, key b hb hbc]
end Go.Proofs.YtgjkgkgieeoalaaGreat
namespace Go.Proofs.YtgjkgkgieeoalaaGreat
open Go.RowKit
abbrev MonD.v (m : MonD) : Array Value := #[.int .i64 m.x0, .int .i64 m.x1, .int .i64 m.x2, .int .i64 m.x3]
theorem cellM {w : World} {g : Nat} {t : TypeId} {m : MonD} (h : Bk w g t m.v) {i : Nat} (hi : i < 4) : ∃ x, Hd (m.l.getD i 0 = x) ∧ w.cell? ⟨g, i, none⟩ = some (.int .i64 x) := by
 obtain ⟨c0, c1, c2, c3⟩ := h.four
 rcases (show i = 0 ∨ i = 1 ∨ i = 2 ∨ i = 3 by omega) with rfl | rfl | rfl | rfl
 ·exact ⟨_, ⟨rfl⟩, c0⟩
 ·exact ⟨_, ⟨rfl⟩, c1⟩
 ·exact ⟨_, ⟨rfl⟩, c2⟩
 ·exact ⟨_, ⟨rfl⟩, c3⟩
theorem mon_bad {m : MonD} {i : Nat} {x : Int} (hi : i < 4) (hx : m.l.getD i 0 = x) (h : x < 0 ∨ 40 < x) : monMay m = false := by
 unfold monMay
 rw [Bool.not_eq_false', List.any_eq_true]
 have hl : m.l.length = 4 := rfl
 refine ⟨x, ?_, ?_⟩
 ·rw [← hx, getD_at (by omega)]; exact List.getElem_mem _
 ·unfold badE; simpa using h
theorem mon_good {m : MonD} (h : ∀ x ∈ m.l.take 4, badE x = false) : monMay m = true := by
 unfold monMay
 rw [Bool.not_eq_true', List.any_eq_false]
 intro x hx
 rw [h x hx]; simp
theorem rmon_May (m : MonD) (w : World) :
    Calls Tryz.prog 85 #[.agg m.v] w fun e w' => e = .returned (.bool (monMay m)) ∧ Below w.heap.size w w' := by
 have hb : Hd (Below w.heap.size w (w.alloc (.cells m.v 66))) := ⟨(ag _ _).alloc (ae _) _⟩
 have k1 := aa (Bk.new_ w 66 m.v)
 go_enter Tryz.func85, Tryz.ntmps85
 go_wp2_with fail
 go_loop [3] (fun v => ∃ i : Nat, v = .int .i64 i ∧ i ≤ 4 ∧ Hd (∀ x ∈ m.l.take i, badE x = false)) (fun v => 4 - (intOf v).toNat)
 case atStart => exact ⟨0, rfl, by omega, ⟨by simp⟩⟩
 case round =>
  obtain ⟨i, rfl, hi, H⟩ := hrel
  by_cases hlt : i < 4
  ·obtain ⟨x, HX, hc⟩ := cellM k1.out hlt
   have HN : Hd (badE x = false → ∀ y ∈ m.l.take (i + 1), badE y = false) := ⟨fun hx y hy => by
    rw [take_snoc (show i < m.l.length from hlt), List.mem_append, List.mem_singleton, HX.out] at hy
    rcases hy with hy | rfl
    ·exact H.out y hy
    ·exact hx⟩
   by_cases h1 : x < 0
   ·have HM := aa (mon_bad hlt HX.out (.inl h1))
    clear H HN
    rcases (show i = 0 ∨ i = 1 ∨ i = 2 ∨ i = 3 by omega) with rfl | rfl | rfl | rfl
    all_goals
     go_wp2_with fail
     go_ret
     exact ⟨retBool HM.out.symm, hb.out⟩
   by_cases h2 : 40 < x
   ·have HM := aa (mon_bad hlt HX.out (.inr h2))
    clear H HN
    rcases (show i = 0 ∨ i = 1 ∨ i = 2 ∨ i = 3 by omega) with rfl | rfl | rfl | rfl
    all_goals
     go_wp2_with fail
     go_ret
     exact ⟨retBool HM.out.symm, hb.out⟩
   ·have HM := aa (HN.out (by unfold badE; simp; omega))
    clear H HN
    rcases (show i = 0 ∨ i = 1 ∨ i = 2 ∨ i = 3 by omega) with rfl | rfl | rfl | rfl
    all_goals
     go_wp2_with fail
     go_round
     case measure => first | (simp [intOf]; done) | (simp [intOf]; omega)
     case rel => exact ⟨_, by go_num, by omega, HM⟩
  ·obtain rfl : i = 4 := by omega
   have HM := aa (mon_good H.out)
   clear H
   go_wp2_with fail
   go_ret
   exact ⟨retBool HM.out.symm, hb.out⟩
theorem rmon_Degree (m : MonD) (w : World) (hm : monMay m = true) :
    Calls Tryz.prog 157 #[.agg m.v] w fun e w' => e = .returned (.int .i64 (monDeg m)) ∧ Below w.heap.size w w' := by
 have hb : Hd (Below w.heap.size w (w.alloc (.cells m.v 66))) := ⟨(ag _ _).alloc (ae _) _⟩
 have CM := aa (rmon_May m (w.alloc (.cells m.v 66)))
 have k1 := aa (Bk.new_ w 66 m.v)
 rw [hm] at CM
 have HD : Hd (monDeg m = m.x0 + m.x1 + m.x2 + m.x3) := ⟨by unfold monDeg; rw [hm]; rfl⟩
 obtain ⟨b0, b1, b2, b3⟩ := monMay_of hm
 clear hm
 go_enter Tryz.func157, Tryz.ntmps157
 go_wp2_with fail
 refine CM.out.mono ?_
 rintro e w2 ⟨rfl, hb2⟩
 have HB := aa (hb.out.trans (hb2.mono hb.out.size))
 obtain ⟨c0, c1, c2, c3⟩ := (k1.out.up hb2).four
 clear hb2
 go_wp2_with fail
 go_loop [3, 4] (fun v2 v9 => ∃ i : Nat, v9 = .int .i64 i ∧ v2 = .int .i64 (preS m i) ∧ i ≤ 4) (fun _ v => 4 - (intOf v).toNat)
 case atStart => exact ⟨0, rfl, rfl, by omega⟩
 case round =>
  obtain ⟨i, rfl, rfl, hi⟩ := hrel
  rcases (show i = 0 ∨ i = 1 ∨ i = 2 ∨ i = 3 ∨ i = 4 by omega) with rfl | rfl | rfl | rfl | rfl
  ·simp only [preS]
   go_wp2_with fail
   go_round
   case measure => first | (simp [intOf]; done) | (simp [intOf]; omega)
   case rel => exact ⟨1, rfl, by simp [preS], by omega⟩
  ·simp only [preS]
   go_wp2_with fail
   go_round
   case measure => first | (simp [intOf]; done) | (simp [intOf]; omega)
   case rel => exact ⟨2, rfl, by simp [preS], by omega⟩
  ·simp only [preS]
   go_wp2_with fail
   go_round
   case measure => first | (simp [intOf]; done) | (simp [intOf]; omega)
   case rel => exact ⟨3, rfl, by simp [preS], by omega⟩
  ·simp only [preS]
   go_wp2_with fail
   go_round
   case measure => first | (simp [intOf]; done) | (simp [intOf]; omega)
   case rel => exact ⟨4, rfl, by simp [preS], by omega⟩
  ·simp only [preS]
   go_wp2_with fail
   go_ret
   exact ⟨retInt HD.out.symm, HB.out⟩
def signI (n : Int) : Int := if n < 0 then -1 else if 0 < n then 1 else 0
theorem sign_cmp (x y : Int) : signI (x - y) = cmpI x y := by
 unfold signI cmpI
 split
 ·rw [if_pos (by omega)]
 ·split
  ·rw [if_neg (by omega), if_pos (by omega)]
  ·rw [if_neg (by omega), if_neg (by omega)]
theorem rmon_sign (n : Int) (w : World) :
    Calls Tryz.prog 158 #[.int .i64 n] w fun e w' => e = .returned (.int .i64 (signI n)) ∧ w = w' := by
 by_cases h1 : n < 0
 ·have HE : Hd (signI n = -1) := ⟨if_pos h1⟩
  go_enter Tryz.func158, Tryz.ntmps158
  go_wp2_with fail
  go_ret
  exact ⟨retInt HE.out.symm, rfl⟩
 by_cases h2 : 0 < n
 ·have HE : Hd (signI n = 1) := ⟨by unfold signI; rw [if_neg h1, if_pos h2]⟩
  go_enter Tryz.func158, Tryz.ntmps158
  go_wp2_with fail
  go_ret
  exact ⟨retInt HE.out.symm, rfl⟩
 ·have HE : Hd (signI n = 0) := ⟨by unfold signI; rw [if_neg h1, if_neg h2]⟩
  go_enter Tryz.func158, Tryz.ntmps158
  go_wp2_with fail
  go_ret
  exact ⟨retInt HE.out.symm, rfl⟩
structure Bo2 (S g1 g2 : Nat) (w0 w : World) (t1 t2 : TypeId) (c1 c2 : Array Value) : Prop where
 below : Below S w0 w
 s1 : S ≤ g1
 s2 : S ≤ g2
 n12 : g1 ≠ g2
 k1 : Bk w g1 t1 c1
 k2 : Bk w g2 t2 c2
section
variable {S g1 g2 : Nat} {w0 w w' : World} {t1 t2 : TypeId} {c1 c2 : Array Value}
theorem Bo2.up (h : Bo2 S g1 g2 w0 w t1 t2 c1 c2) (hb : Below w.heap.size w w') : Bo2 S g1 g2 w0 w' t1 t2 c1 c2 :=
 ⟨h.below.trans (hb.mono (ah h.s1 (Nat.le_of_lt h.k1.lt))), h.s1, h.s2, h.n12, h.k1.up hb, h.k2.up hb⟩
theorem Bo2.dn (h : Bo2 S g1 g2 w0 w t1 t2 c1 c2) (n : Nat) : Bo2 S g1 g2 w0 (w.drewN n) t1 t2 c1 c2 := ⟨Below.dn h.below n, h.s1, h.s2, h.n12, h.k1, h.k2⟩
theorem Bo2.d1 (h : Bo2 S g1 g2 w0 w t1 t2 c1 c2) : Bo2 S g1 g2 w0 w.drew t1 t2 c1 c2 := h.dn 1
theorem Bo2.mk2 (w : World) (t1 t2 : TypeId) (c1 c2 : Array Value) : Bo2 w.heap.size w.heap.size (w.heap.size + 1) w ((w.alloc (Obj.cells c1 t1)).alloc (Obj.cells c2 t2)) t1 t2 c1 c2 :=
 ⟨((ag _ _).alloc (ae _) _).alloc (by simp) _, ae _, by omega, by omega, (Bk.new_ _ _ _).al _, by
  have := Bk.new_ (w.alloc (Obj.cells c1 t1)) t2 c2
  simpa using this⟩
end
theorem quiet_two {P : Program} {f : FuncId} {args : Array Value} {w : World} {a n : Nat} {v : Value} (h : ∀ W : World, Calls P f args W fun e w' => e = .returned v ∧ W = w') :
    Calls P f args (w.drewN (a + n)) fun e w' => e = .returned v ∧ ∃ m, w' = w.drewN (a + m) := (h _).mono fun _ _ h => ⟨h.1, n, h.2.symm⟩
theorem quiet_one {P : Program} {f : FuncId} {args : Array Value} {w : World} {n : Nat} {v : Value} (h : ∀ W : World, Calls P f args W fun e w' => e = .returned v ∧ W = w') :
    Calls P f args (w.drewN n) fun e w' => e = .returned v ∧ ∃ m, w' = w.drewN m := (h _).mono fun _ _ h => ⟨h.1, n, h.2.symm⟩
theorem lexC_drop {a b : List Int} {i : Nat} {x y : Int} (ha : i < a.length) (hb : i < b.length) (hx : a.getD i 0 = x) (hy : b.getD i 0 = y) :
    lexC (a.drop i) (b.drop i) = if cmpI x y ≠ 0 then cmpI x y else lexC (a.drop (i + 1)) (b.drop (i + 1)) := by
 rw [drop_at ha, drop_at hb, hx, hy]; rfl
theorem mon_rng {m : MonD} {i : Nat} {x : Int} (h : monMay m = true) (hi : i < 4) (hx : m.l.getD i 0 = x) : 0 ≤ x ∧ x ≤ 40 := by
 obtain ⟨b0, b1, b2, b3⟩ := monMay_of h
 subst hx
 rcases (show i = 0 ∨ i = 1 ∨ i = 2 ∨ i = 3 by omega) with rfl | rfl | rfl | rfl <;> assumption
theorem rmon_lex (a b : MonD) (w : World) (ha : monMay a = true) (hb : monMay b = true) :
    Calls Tryz.prog 156 #[.agg a.v, .agg b.v] w fun e w' => e = .returned (.int .i64 (lexC a.l b.l)) ∧ Below w.heap.size w w' := by
 have HA := aa (af ha hb)
 clear ha hb
 go_enter Tryz.func156, Tryz.ntmps156
 go_upto_region 1 with (fail)
 refine wp_gen (fun W => Bo2 w.heap.size w.heap.size (w.heap.size + 1) w W 66 66 a.v b.v) (Bo2.mk2 w _ _ _ _) ?_
 intro W BX
 generalize w.heap.size + 1 = g2 at BX ⊢
 go_wp2_with fail
 go_loopw [5] (fun v wr => ∃ i : Nat, v = .int .i64 i ∧ i ≤ 4 ∧ Hd (lexC a.l b.l = lexC (a.l.drop i) (b.l.drop i)) ∧ Hd (Dr W wr)) (fun v _ => 4 - (intOf v).toNat)
 case atStart => exact ⟨0, rfl, by omega, ⟨rfl⟩, ⟨.refl _⟩⟩
 case round =>
  obtain ⟨i, rfl, hi, H, ⟨⟨nq, rfl⟩⟩⟩ := hrel
  by_cases hlt : i < 4
  ·obtain ⟨x, HX, hcx⟩ := cellM BX.out.k1 hlt
   obtain ⟨y, HY, hcy⟩ := cellM BX.out.k2 hlt
   obtain ⟨x0, x1⟩ := mon_rng HA.out.1 hlt HX.out
   obtain ⟨y0, y1⟩ := mon_rng HA.out.2 hlt HY.out
   have HN := aa (H.out.trans (lexC_drop (show i < a.l.length from hlt) (show i < b.l.length from hlt) HX.out HY.out))
   clear H
   by_cases hxy : x = y
   ·have hbn : (x != y) = false := by rw [bne_eq_false_iff_eq]; exact hxy
    have HM : Hd (lexC a.l b.l = lexC (a.l.drop (i + 1)) (b.l.drop (i + 1))) := ⟨by rw [HN.out, if_neg (by rw [cmpI_zero.2 hxy]; simp)]⟩
    clear HN hxy
    rcases (show i = 0 ∨ i = 1 ∨ i = 2 ∨ i = 3 by omega) with rfl | rfl | rfl | rfl
    all_goals
     go_wp2_with fail
     go_quiet (fail)
     go_wp2_with fail
     go_roundw
     case measure => first | (simp [intOf]; done) | (simp [intOf]; omega)
     case rel => exact ⟨_, by go_num, by omega, HM, ⟨by repeat (first | exact .refl _ | apply Dr.dn)⟩⟩
   ·have hbn : (x != y) = true := by rw [bne_iff_ne]; exact hxy
    have HM : Hd (lexC a.l b.l = signI (x - y)) := ⟨by rw [HN.out, if_pos (fun h => hxy (cmpI_zero.1 h)), sign_cmp]⟩
    have hw : IntKind.i64.wrap (x - y) = x - y := by rw [IntKind.wrap_i64]; omega
    clear HN hxy
    rcases (show i = 0 ∨ i = 1 ∨ i = 2 ∨ i = 3 by omega) with rfl | rfl | rfl | rfl
    all_goals
     go_wp2_with fail
     go_quiet (fail)
     go_wp2_with fail
     go_quiet ((go_at_call 158; first | exact quiet_two (rmon_sign _) | exact quiet_one (rmon_sign _)))
     go_wp2_with fail
     go_ret
     exact ⟨retInt HM.out.symm, BX.out.below.trans (Dr.below (by repeat (first | exact .refl _ | apply Dr.dn))|>.mono (ah BX.out.s1 (Nat.le_of_lt BX.out.k1.lt)))⟩
  ·obtain rfl : i = 4 := by omega
   have HM : Hd (lexC a.l b.l = 0) := ⟨by rw [H.out]; rfl⟩
   clear H
   go_wp2_with fail
   go_ret
   exact ⟨retInt HM.out.symm, (BX.out.dn _).below⟩
def Two (S g1 g2 : Nat) (w0 : World) (a b : MonD) (w : World) : Prop :=
 Hd (Bo2 S g1 g2 w0 w 66 66 a.v b.v) ∧ (w.cell? ⟨g1, 0, none⟩ = some (.int .i64 a.x0) ∧ w.cell? ⟨g1, 1, none⟩ = some (.int .i64 a.x1) ∧ w.cell? ⟨g1, 2, none⟩ = some (.int .i64 a.x2) ∧ w.cell? ⟨g1, 3, none⟩ = some (.int .i64 a.x3)) ∧
  w.cell? ⟨g2, 0, none⟩ = some (.int .i64 b.x0) ∧ w.cell? ⟨g2, 1, none⟩ = some (.int .i64 b.x1) ∧ w.cell? ⟨g2, 2, none⟩ = some (.int .i64 b.x2) ∧ w.cell? ⟨g2, 3, none⟩ = some (.int .i64 b.x3)
theorem Bo2.two {S g1 g2 : Nat} {w0 w : World} {a b : MonD} (h : Bo2 S g1 g2 w0 w 66 66 a.v b.v) : Two S g1 g2 w0 a b w := ⟨⟨h⟩, h.k1.four, h.k2.four⟩
def ivR : Nat → Int
 | 0 => 3
 | 1 => 2
 | 2 => 1
 | 3 => 0
 | _ => -1
theorem cellR {w : World} {g : Nat} {t : TypeId} {m : MonD} (h : Bk w g t m.v) {k : Nat} (hk : k < 4) : ∃ x, Hd ((rev m).l.getD k 0 = x) ∧ w.cell? ⟨g, 3 - k, none⟩ = some (.int .i64 x) := by
 obtain ⟨c0, c1, c2, c3⟩ := h.four
 rcases (show k = 0 ∨ k = 1 ∨ k = 2 ∨ k = 3 by omega) with rfl | rfl | rfl | rfl
 ·exact ⟨_, ⟨rfl⟩, c3⟩
 ·exact ⟨_, ⟨rfl⟩, c2⟩
 ·exact ⟨_, ⟨rfl⟩, c1⟩
 ·exact ⟨_, ⟨rfl⟩, c0⟩
theorem rev_may {m : MonD} (h : monMay m = true) : monMay (rev m) = true := by
 apply mon_good
 unfold monMay at h
 rw [Bool.not_eq_true', List.any_eq_false] at h
 intro x hx
 have : x ∈ m.l := by
  simp [rev, MonD.l] at hx ⊢
  rcases hx with h | h | h | h <;> simp [h]
 simpa using h x this
theorem rmon_Cmp (order : Int) (a b : MonD) (w : World) :
    Calls Tryz.prog 86 #[.int .i64 order, .agg a.v, .agg b.v] w fun e w' => e = .returned (.int .i64 (monCmp order a b)) ∧ Below w.heap.size w w' := by
 obtain ⟨E, hE⟩ : ∃ E, monCmp order a b = E := ⟨_, rfl⟩
 rw [hE]
 have HEQ := aa hE
 clear hE
 go_enter Tryz.func86, Tryz.ntmps86
 go_upto_region 1 with (fail)
 refine wp_gen (fun W => Bo2 w.heap.size w.heap.size (w.heap.size + 1) w W 66 66 a.v b.v) (Bo2.mk2 w _ _ _ _) ?_
 intro W BX
 generalize w.heap.size + 1 = g2 at BX ⊢
 obtain ⟨p0, p1, p2, p3⟩ := BX.out.k1.four
 cases hma : monMay a
 ·have CA := aa (rmon_May a W)
  rw [hma] at CA
  have HE : Hd (E = 0) := ⟨by rw [← HEQ.out]; unfold monCmp; rw [hma]; rfl⟩
  clear hma
  go_wp2_with fail
  refine CA.out.mono ?_
  rintro e w2 ⟨rfl, hb⟩
  have BX2 := aa (BX.out.up hb)
  clear hb
  go_wp2_with fail
  go_ret
  exact ⟨retInt HE.out.symm, BX2.out.below⟩
 have CA := aa (rmon_May a W)
 rw [hma] at CA
 cases hmb : monMay b
 ·have CB := aa (rmon_May b)
  rw [hmb] at CB
  have HE : Hd (E = 0) := ⟨by rw [← HEQ.out]; unfold monCmp; rw [hma, hmb]; rfl⟩
  clear hma hmb
  go_wp2_with fail
  refine CA.out.mono ?_
  rintro e w2 ⟨rfl, hb⟩
  have BX2 := aa (BX.out.up hb)
  obtain ⟨q0, q1, q2, q3⟩ := BX2.out.k2.four
  clear hb
  go_wp2_with fail
  refine (CB.out _).mono ?_
  rintro e w3 ⟨rfl, hb⟩
  have BX3 := aa (BX2.out.up hb)
  clear hb
  go_wp2_with fail
  go_ret
  exact ⟨retInt HE.out.symm, BX3.out.below⟩
 have CB := aa (rmon_May b)
 rw [hmb] at CB
 have DA := aa (fun W => rmon_Degree a W hma)
 have DB := aa (fun W => rmon_Degree b W hmb)
 have LX := aa (fun W => rmon_lex a b W hma hmb)
 have HM := aa (af hma hmb)
 have HE : Hd (E = if (decide (order < 0) || decide (3 ≤ order)) = true then 0 else if order = 0 then lexC a.l b.l else if order = 1 then orI (cmpI (monDeg a) (monDeg b)) (lexC a.l b.l) else orI (cmpI (monDeg a) (monDeg b)) (lexC (rev b).l (rev a).l)) := ⟨by
  rw [← HEQ.out]; unfold monCmp; rw [hma, hmb]; rfl⟩
 have hda : 0 ≤ monDeg a ∧ monDeg a ≤ 160 := by rw [monDeg_of hma]; obtain ⟨_, _, _, _⟩ := monMay_of hma; omega
 have hdb : 0 ≤ monDeg b ∧ monDeg b ≤ 160 := by rw [monDeg_of hmb]; obtain ⟨_, _, _, _⟩ := monMay_of hmb; omega
 generalize monDeg a = dA at DA HE hda
 generalize monDeg b = dB at DB HE hdb
 clear hma hmb HEQ
 by_cases ho : order < 0 ∨ 2 < order
 ·have HF : Hd (E = 0) := ⟨by
    rw [HE.out, if_pos]
    simp only [Bool.or_eq_true, decide_eq_true_eq]; omega⟩
  clear HE
  rcases ho with ho1 | ho1
  all_goals
   go_wp2_with fail
   refine CA.out.mono ?_
   rintro e w2 ⟨rfl, hb⟩
   have BX2 := aa (BX.out.up hb)
   obtain ⟨q0, q1, q2, q3⟩ := BX2.out.k2.four
   clear hb
   go_wp2_with fail
   refine (CB.out _).mono ?_
   rintro e w3 ⟨rfl, hb⟩
   have BX3 := aa (BX2.out.up hb)
   clear hb
   go_wp2_with fail
   go_ret
   exact ⟨retInt HF.out.symm, BX3.out.below⟩
 have ho1 : 0 ≤ order ∧ order ≤ 2 := by omega
 have HE2 : Hd (E = if order = 0 then lexC a.l b.l else if order = 1 then orI (cmpI dA dB) (lexC a.l b.l) else orI (cmpI dA dB) (lexC (rev b).l (rev a).l)) := ⟨by
  rw [HE.out, if_neg]
  simp only [Bool.or_eq_true, decide_eq_true_eq]; omega⟩
 obtain ⟨ho2, ho3⟩ := ho1
 clear ho HE
 go_wp2_with fail
 refine CA.out.mono ?_
 rintro e w2 ⟨rfl, hb⟩
 have BX2 := aa (BX.out.up hb)
 obtain ⟨q0, q1, q2, q3⟩ := BX2.out.k2.four
 clear hb p0 p1 p2 p3 CA
 go_wp2_with fail
 refine (CB.out _).mono ?_
 rintro e w3 ⟨rfl, hb⟩
 have BX3 := aa (BX2.out.up hb)
 clear hb q0 q1 q2 q3 BX BX2 CB
 obtain ⟨hB3, ⟨p0, p1, p2, p3⟩, q0, q1, q2, q3⟩ := BX3.out.two
 by_cases h0 : order = 0
 ·have HF : Hd (E = lexC a.l b.l) := ⟨by rw [HE2.out, if_pos h0]⟩
  have e0 : (order == 0) = true := by rw [beq_iff_eq]; exact h0
  clear HE2 h0
  go_wp2_with fail
  refine (LX.out _).mono ?_
  rintro e w4 ⟨rfl, hb⟩
  have BX4 := aa (BX3.out.up hb)
  clear hb
  go_wp2_with fail
  go_ret
  exact ⟨retInt HF.out.symm, BX4.out.below⟩
 have e0 : (order == 0) = false := by rw [beq_eq_false_iff_ne]; exact h0
 have HE3 : Hd (E = if order = 1 then orI (cmpI dA dB) (lexC a.l b.l) else orI (cmpI dA dB) (lexC (rev b).l (rev a).l)) := ⟨by rw [HE2.out, if_neg h0]⟩
 clear HE2 h0
 by_cases hd : dA = dB
 ·have e1 : (dA != dB) = false := by rw [bne_eq_false_iff_eq]; exact hd
  have HC : Hd (cmpI dA dB = 0) := ⟨cmpI_zero.2 hd⟩
  clear hd
  have HF1 : Hd (E = if order = 1 then lexC a.l b.l else lexC (rev b).l (rev a).l) := ⟨by rw [HE3.out, HC.out]; rfl⟩
  by_cases h1 : order = 1
  ·have HF : Hd (E = lexC a.l b.l) := ⟨by rw [HF1.out, if_pos h1]⟩
   have e2 : (order == 1) = true := by rw [beq_iff_eq]; exact h1
   clear HE3 HF1 h1
   go_upto_region 5 with (fail)
   go_wp2_with fail
   go_region_held3 (fun w' => Hd (Bo2 w.heap.size w.heap.size g2 w w' 66 66 a.v b.v) ∧ (w'.cell? ⟨w.heap.size, 0, none⟩ = some (.int .i64 a.x0) ∧ w'.cell? ⟨w.heap.size, 1, none⟩ = some (.int .i64 a.x1) ∧ w'.cell? ⟨w.heap.size, 2, none⟩ = some (.int .i64 a.x2) ∧ w'.cell? ⟨w.heap.size, 3, none⟩ = some (.int .i64 a.x3)) ∧
       w'.cell? ⟨g2, 0, none⟩ = some (.int .i64 b.x0) ∧ w'.cell? ⟨g2, 1, none⟩ = some (.int .i64 b.x1) ∧ w'.cell? ⟨g2, 2, none⟩ = some (.int .i64 b.x2) ∧ w'.cell? ⟨g2, 3, none⟩ = some (.int .i64 b.x3))
    (first
     | exact hS
     | exact BX3.out.two
     | exact BX3.out.d1.two)
    (first
     | (go_at_call 157; obtain ⟨hB, _⟩ := ‹Hd (Bo2 w.heap.size w.heap.size g2 w _ _ _ _ _) ∧ _›; with_reducible refine (DA.out _).mono ?_; rintro e w4 ⟨rfl, hb⟩
        have BX4 := aa (hB.out.up hb)
        have hS := BX4.out.two)
     | (go_at_call 157; obtain ⟨hB, _⟩ := ‹Hd (Bo2 w.heap.size w.heap.size g2 w _ _ _ _ _) ∧ _›; with_reducible refine (DB.out _).mono ?_; rintro e w4 ⟨rfl, hb⟩
        have BX4 := aa (hB.out.up hb)
        have hS := BX4.out.two))
   all_goals
    go_wp2_with fail
    refine (LX.out _).mono ?_
    rintro e w6 ⟨rfl, hb⟩
    have BX6 := aa (hS.1.out.up hb)
    clear hb
    go_wp2_with fail
    go_ret
    exact ⟨retInt HF.out.symm, BX6.out.below⟩
  have HF : Hd (E = lexC (rev b).l (rev a).l) := ⟨by rw [HF1.out, if_neg h1]⟩
  have e2 : (order == 1) = false := by rw [beq_eq_false_iff_ne]; exact h1
  clear HE3 HF1 h1
  go_upto_region 5 with (fail)
  go_wp2_with fail
  go_region_held3 (fun w' => Hd (Bo2 w.heap.size w.heap.size g2 w w' 66 66 a.v b.v) ∧ (w'.cell? ⟨w.heap.size, 0, none⟩ = some (.int .i64 a.x0) ∧ w'.cell? ⟨w.heap.size, 1, none⟩ = some (.int .i64 a.x1) ∧ w'.cell? ⟨w.heap.size, 2, none⟩ = some (.int .i64 a.x2) ∧ w'.cell? ⟨w.heap.size, 3, none⟩ = some (.int .i64 a.x3)) ∧
      w'.cell? ⟨g2, 0, none⟩ = some (.int .i64 b.x0) ∧ w'.cell? ⟨g2, 1, none⟩ = some (.int .i64 b.x1) ∧ w'.cell? ⟨g2, 2, none⟩ = some (.int .i64 b.x2) ∧ w'.cell? ⟨g2, 3, none⟩ = some (.int .i64 b.x3))
   (first
    | exact hS
    | exact BX3.out.two
    | exact BX3.out.d1.two)
   (first
    | (go_at_call 157; obtain ⟨hB, _⟩ := ‹Hd (Bo2 w.heap.size w.heap.size g2 w _ _ _ _ _) ∧ _›; with_reducible refine (DA.out _).mono ?_; rintro e w4 ⟨rfl, hb⟩
       have BX4 := aa (hB.out.up hb)
       have hS := BX4.out.two)
    | (go_at_call 157; obtain ⟨hB, _⟩ := ‹Hd (Bo2 w.heap.size w.heap.size g2 w _ _ _ _ _) ∧ _›; with_reducible refine (DB.out _).mono ?_; rintro e w4 ⟨rfl, hb⟩
       have BX4 := aa (hB.out.up hb)
       have hS := BX4.out.two))
  all_goals
   go_wp2_with fail
   refine wp_gen (fun W => Bo2 w.heap.size w.heap.size g2 w W 66 66 a.v b.v) hS.1.out ?_
   intro W5 BX5
   clear hS p0 p1 p2 p3 q0 q1 q2 q3 BX3 BX4
   go_loopw [7] (fun v wr => ∃ k : Nat, v = .int .i64 (ivR k) ∧ k ≤ 4 ∧ Hd (E = lexC ((rev b).l.drop k) ((rev a).l.drop k)) ∧ Hd (Dr W5 wr)) (fun v _ => (intOf v + 1).toNat)
   case atStart => exact ⟨0, rfl, by omega, HF, ⟨.refl _⟩⟩
   case round =>
    obtain ⟨k, rfl, hk, H, ⟨⟨nq, rfl⟩⟩⟩ := hrel
    by_cases hlt : k < 4
    ·obtain ⟨x, HX, hcx⟩ := cellR BX5.out.k1 hlt
     obtain ⟨y, HY, hcy⟩ := cellR BX5.out.k2 hlt
     obtain ⟨x0, x1⟩ := mon_rng (rev_may HM.out.1) hlt HX.out
     obtain ⟨y0, y1⟩ := mon_rng (rev_may HM.out.2) hlt HY.out
     have HN := aa (H.out.trans (lexC_drop (show k < (rev b).l.length from hlt) (show k < (rev a).l.length from hlt) HY.out HX.out))
     clear H
     by_cases hxy : x = y
     ·have hbn : (x != y) = false := by rw [bne_eq_false_iff_eq]; exact hxy
      have HM : Hd (E = lexC ((rev b).l.drop (k + 1)) ((rev a).l.drop (k + 1))) := ⟨by rw [HN.out, if_neg (by rw [cmpI_zero.2 hxy.symm]; simp)]⟩
      clear HN hxy
      rcases (show k = 0 ∨ k = 1 ∨ k = 2 ∨ k = 3 by omega) with rfl | rfl | rfl | rfl
      all_goals
       simp only [ivR]
       simp only [Nat.reduceSub, Nat.sub_zero] at hcx hcy
       go_wp2_with fail
       go_quiet (fail)
       go_wp2_with fail
       go_roundw
       case measure => first | (simp [intOf]; done) | (simp [intOf]; omega)
       case rel => exact ⟨_, by first | exact rfl | go_num, by omega, HM, ⟨by repeat (first | exact .refl _ | apply Dr.dn)⟩⟩
     ·have hbn : (x != y) = true := by rw [bne_iff_ne]; exact hxy
      have HM : Hd (E = signI (y - x)) := ⟨by rw [HN.out, if_pos (fun h => hxy (cmpI_zero.1 h).symm), sign_cmp]⟩
      have hw : IntKind.i64.wrap (y - x) = y - x := by rw [IntKind.wrap_i64]; omega
      clear HN hxy
      rcases (show k = 0 ∨ k = 1 ∨ k = 2 ∨ k = 3 by omega) with rfl | rfl | rfl | rfl
      all_goals
       simp only [ivR]
       simp only [Nat.reduceSub, Nat.sub_zero] at hcx hcy
       go_wp2_with fail
       go_quiet (fail)
       go_wp2_with fail
       go_quiet ((go_at_call 158; first | exact quiet_two (rmon_sign _) | exact quiet_one (rmon_sign _)))
       go_wp2_with fail
       go_ret
       exact ⟨retInt HM.out.symm, BX5.out.below.trans (Dr.below (by repeat (first | exact .refl _ | apply Dr.dn))|>.mono (ah BX5.out.s1 (Nat.le_of_lt BX5.out.k1.lt)))⟩
    ·obtain rfl : k = 4 := by omega
     have HM : Hd (E = 0) := ⟨by rw [H.out]; rfl⟩
     clear H
     simp only [ivR]
     go_wp2_with fail
     go_ret
     exact ⟨retInt HM.out.symm, (BX5.out.dn _).below⟩
 ·have e1 : (dA != dB) = true := by rw [bne_iff_ne]; exact hd
  have HC : Hd (cmpI dA dB = signI (dA - dB) ∧ signI (dA - dB) ≠ 0) := ⟨(sign_cmp _ _).symm, by rw [sign_cmp]; exact fun h => hd (cmpI_zero.1 h)⟩
  have hw : IntKind.i64.wrap (dA - dB) = dA - dB := by rw [IntKind.wrap_i64]; omega
  have HF : Hd (E = signI (dA - dB)) := ⟨by
   rw [HE3.out]
   have : ∀ z, orI (cmpI dA dB) z = signI (dA - dB) := fun z => by unfold orI; rw [HC.out.1, if_pos HC.out.2]
   rw [this, this]; exact ite_self _⟩
  clear hd HE3 HC
  go_upto_region 5 with (fail)
  go_wp2_with fail
  go_region_held3 (fun w' => Hd (Bo2 w.heap.size w.heap.size g2 w w' 66 66 a.v b.v) ∧ (w'.cell? ⟨w.heap.size, 0, none⟩ = some (.int .i64 a.x0) ∧ w'.cell? ⟨w.heap.size, 1, none⟩ = some (.int .i64 a.x1) ∧ w'.cell? ⟨w.heap.size, 2, none⟩ = some (.int .i64 a.x2) ∧ w'.cell? ⟨w.heap.size, 3, none⟩ = some (.int .i64 a.x3)) ∧
      w'.cell? ⟨g2, 0, none⟩ = some (.int .i64 b.x0) ∧ w'.cell? ⟨g2, 1, none⟩ = some (.int .i64 b.x1) ∧ w'.cell? ⟨g2, 2, none⟩ = some (.int .i64 b.x2) ∧ w'.cell? ⟨g2, 3, none⟩ = some (.int .i64 b.x3))
   (first
    | exact hS
    | exact BX3.out.two
    | exact BX3.out.d1.two)
   (first
    | (go_at_call 157; obtain ⟨hB, _⟩ := ‹Hd (Bo2 w.heap.size w.heap.size g2 w _ _ _ _ _) ∧ _›; with_reducible refine (DA.out _).mono ?_; rintro e w4 ⟨rfl, hb⟩
       have BX4 := aa (hB.out.up hb)
       have hS := BX4.out.two)
    | (go_at_call 157; obtain ⟨hB, _⟩ := ‹Hd (Bo2 w.heap.size w.heap.size g2 w _ _ _ _ _) ∧ _›; with_reducible refine (DB.out _).mono ?_; rintro e w4 ⟨rfl, hb⟩
       have BX4 := aa (hB.out.up hb)
       have hS := BX4.out.two))
  all_goals
   go_wp2_with fail
   go_wp2_with fail
   go_region_held3 (fun w' => Hd (Bo2 w.heap.size w.heap.size g2 w w' 66 66 a.v b.v) ∧ (w'.cell? ⟨w.heap.size, 0, none⟩ = some (.int .i64 a.x0) ∧ w'.cell? ⟨w.heap.size, 1, none⟩ = some (.int .i64 a.x1) ∧ w'.cell? ⟨w.heap.size, 2, none⟩ = some (.int .i64 a.x2) ∧ w'.cell? ⟨w.heap.size, 3, none⟩ = some (.int .i64 a.x3)) ∧
       w'.cell? ⟨g2, 0, none⟩ = some (.int .i64 b.x0) ∧ w'.cell? ⟨g2, 1, none⟩ = some (.int .i64 b.x1) ∧ w'.cell? ⟨g2, 2, none⟩ = some (.int .i64 b.x2) ∧ w'.cell? ⟨g2, 3, none⟩ = some (.int .i64 b.x3))
    (first
     | exact hS
     | exact hS.1.out.d1.two)
    (first
     | (go_at_call 157; obtain ⟨hB, _⟩ := ‹Hd (Bo2 w.heap.size w.heap.size g2 w _ _ _ _ _) ∧ _›; with_reducible refine (DA.out _).mono ?_; rintro e w4 ⟨rfl, hb⟩
        have BX4 := aa (hB.out.up hb)
        have hS := BX4.out.two)
     | (go_at_call 157; obtain ⟨hB, _⟩ := ‹Hd (Bo2 w.heap.size w.heap.size g2 w _ _ _ _ _) ∧ _›; with_reducible refine (DB.out _).mono ?_; rintro e w4 ⟨rfl, hb⟩
        have BX4 := aa (hB.out.up hb)
        have hS := BX4.out.two)
     | (go_at_call 158; have hK := ‹Hd (Bo2 w.heap.size w.heap.size g2 w _ _ _ _ _) ∧ _›; with_reducible refine (rmon_sign _ _).mono ?_; rintro e w4 ⟨rfl, rfl⟩
        have hS := hK))
   all_goals
    go_wp2_with fail
    go_ret
    exact ⟨retInt HF.out.symm, hS.1.out.below⟩
structure Mu (S g1 g2 g3 g4 : Nat) (w0 w : World) (a b m : MonD) : Prop where
 bo : Bo2 S g1 g2 w0 w 66 66 a.v b.v
 s3 : S ≤ g3
 s4 : S ≤ g4
 n1 : g4 ≠ g1
 n2 : g4 ≠ g2
 n3 : g4 ≠ g3
 k3 : Bk w g3 66 zeroM.v
 k4 : Bk w g4 66 m.v
section
variable {S g1 g2 g3 g4 : Nat} {w0 w w' : World} {a b m : MonD}
theorem Mu.dn (h : Mu S g1 g2 g3 g4 w0 w a b m) (n : Nat) : Mu S g1 g2 g3 g4 w0 (w.drewN n) a b m := ⟨h.bo.dn n, h.s3, h.s4, h.n1, h.n2, h.n3, h.k3, h.k4⟩
theorem part_set {z : MonD} {g i : Nat} {s : Int} {t : TypeId} (hi : i < 4) (h : Bk w g t (part z i).v) (hs : z.l.getD i 0 = s) : Bk (w.setCell ⟨g, i, none⟩ (.int .i64 s)) g t (part z (i + 1)).v := by
 have := h.set_ i (.int .i64 s)
 subst hs
 rcases (show i = 0 ∨ i = 1 ∨ i = 2 ∨ i = 3 by omega) with rfl | rfl | rfl | rfl <;> exact this
theorem Mu.set {z : MonD} {i : Nat} {s : Int} (h : Mu S g1 g2 g3 g4 w0 w a b (part z i)) (hi : i < 4) (hs : z.l.getD i 0 = s) : Mu S g1 g2 g3 g4 w0 (w.setCell ⟨g4, i, none⟩ (.int .i64 s)) a b (part z (i + 1)) :=
 ⟨⟨h.bo.below.setCell h.s4 _, h.bo.s1, h.bo.s2, h.bo.n12, h.bo.k1.far h.n1.symm _, h.bo.k2.far h.n2.symm _⟩, h.s3, h.s4, h.n1, h.n2, h.n3, h.k3.far h.n3.symm _, part_set hi h.k4 hs⟩
theorem Bk.set4' (h : Bk w g4 66 m.v) (v0 v1 v2 v3 : Value) : Bk ((((w.setCell ⟨g4, 0, none⟩ v0).setCell ⟨g4, 1, none⟩ v1).setCell ⟨g4, 2, none⟩ v2).setCell ⟨g4, 3, none⟩ v3) g4 66 #[v0, v1, v2, v3] := h.set4 _ _ _ _
theorem Below.set4 (h : Below S w0 w) (hg : S ≤ g4) (v0 v1 v2 v3 : Value) : Below S w0 ((((w.setCell ⟨g4, 0, none⟩ v0).setCell ⟨g4, 1, none⟩ v1).setCell ⟨g4, 2, none⟩ v2).setCell ⟨g4, 3, none⟩ v3) :=
 (((h.setCell hg _).setCell hg _).setCell hg _).setCell hg _
end
theorem addM_at {a b : MonD} {i : Nat} {x y : Int} (hi : i < 4) (hx : a.l.getD i 0 = x) (hy : b.l.getD i 0 = y) : (addM a b).l.getD i 0 = x + y := by
 subst hx hy
 rcases (show i = 0 ∨ i = 1 ∨ i = 2 ∨ i = 3 by omega) with rfl | rfl | rfl | rfl <;> rfl
theorem rmon_Mul (a b : MonD) (w : World) :
    Calls Tryz.prog 201 #[.agg a.v, .agg b.v] w fun e w' => e = .returned (.tuple #[.agg (monMul a b).2.v, .int .i64 (monMul a b).1]) ∧ Below w.heap.size w w' := by
 obtain ⟨E, hE⟩ : ∃ E, monMul a b = E := ⟨_, rfl⟩
 rw [hE]
 have HEQ := aa hE
 clear hE
 go_enter Tryz.func201, Tryz.ntmps201
 go_upto_region 1 with (fail)
 refine wp_gen (fun W => Bo2 w.heap.size w.heap.size (w.heap.size + 1) w W 66 66 a.v b.v ∧ Bk W (w.heap.size + 1 + 1) 66 zeroM.v) ⟨(Bo2.mk2 w _ _ _ _).up ((ag _ _).alloc (ae _) _), by
  have := Bk.new_ ((w.alloc (Obj.cells a.v 66)).alloc (Obj.cells b.v 66)) 66 zeroM.v
  simpa [MonD.v, zeroM] using this⟩ ?_
 intro W hW
 have BX := aa hW.out.1
 have K3 := aa hW.out.2
 have N3 : Hd (w.heap.size ≤ w.heap.size + 1 + 1) := ⟨by omega⟩
 clear hW
 generalize w.heap.size + 1 + 1 = g3 at K3 N3 ⊢
 generalize w.heap.size + 1 = g2 at BX ⊢
 obtain ⟨p0, p1, p2, p3⟩ := BX.out.k1.four
 obtain ⟨r0, r1, r2, r3⟩ := K3.out.four
 have fz := fun i => K3.out.froz i
 have CA := aa (rmon_May a W)
 cases hma : monMay a
 ·rw [hma] at CA
  have HE : Hd (E = (1, zeroM)) := ⟨by rw [← HEQ.out]; unfold monMul; rw [hma]; rfl⟩
  clear hma
  go_wp2_with fail
  refine CA.out.mono ?_
  rintro e w2 ⟨rfl, hb⟩
  have BX2 := aa (BX.out.up hb)
  have K32 := aa (K3.out.up hb)
  obtain ⟨r0, r1, r2, r3⟩ := K32.out.four
  have fz := fun i => K32.out.froz i
  clear hb
  go_wp2_with fail
  refine bodyPost_ret (res_mono2 rfl _ _ g3 _ rfl (K32.out.set4' _ _ _ _) rfl) rfl ?_
  rw [HE.out]
  exact ⟨rfl, Below.set4 BX2.out.below N3.out _ _ _ _⟩
 rw [hma] at CA
 have CB := aa (rmon_May b)
 cases hmb : monMay b
 ·rw [hmb] at CB
  have HE : Hd (E = (1, zeroM)) := ⟨by rw [← HEQ.out]; unfold monMul; rw [hma, hmb]; rfl⟩
  clear hma hmb
  go_wp2_with fail
  refine CA.out.mono ?_
  rintro e w2 ⟨rfl, hb⟩
  have BX2 := aa (BX.out.up hb)
  have K32 := aa (K3.out.up hb)
  obtain ⟨q0, q1, q2, q3⟩ := BX2.out.k2.four
  clear hb
  go_wp2_with fail
  refine (CB.out _).mono ?_
  rintro e w3 ⟨rfl, hb⟩
  have BX3 := aa (BX2.out.up hb)
  have K33 := aa (K32.out.up hb)
  obtain ⟨r0, r1, r2, r3⟩ := K33.out.four
  have fz := fun i => K33.out.froz i
  clear hb
  go_wp2_with fail
  refine bodyPost_ret (res_mono2 rfl _ _ g3 _ rfl (K33.out.set4' _ _ _ _) rfl) rfl ?_
  rw [HE.out]
  exact ⟨rfl, Below.set4 BX3.out.below N3.out _ _ _ _⟩
 rw [hmb] at CB
 have HE : Hd (E = if monMay (addM a b) = false then (80, zeroM) else (0, addM a b)) := ⟨by rw [← HEQ.out]; unfold monMul; rw [hma, hmb]; rfl⟩
 have HAB := aa (fun {i : Nat} {x y : Int} => addM_at (a := a) (b := b) (i := i) (x := x) (y := y))
 have CM := aa (rmon_May (addM a b))
 have HM := aa (af hma hmb)
 generalize addM a b = z at HE HAB CM
 clear hma hmb
 go_wp2_with fail
 refine CA.out.mono ?_
 rintro e w2 ⟨rfl, hb⟩
 have BX2 := aa (BX.out.up hb)
 have K32 := aa (K3.out.up hb)
 obtain ⟨q0, q1, q2, q3⟩ := BX2.out.k2.four
 clear hb p0 p1 p2 p3 CA r0 r1 r2 r3 fz
 go_wp2_with fail
 refine (CB.out _).mono ?_
 rintro e w3 ⟨rfl, hb⟩
 have BX3 := aa (BX2.out.up hb)
 have K33 := aa (K32.out.up hb)
 clear hb q0 q1 q2 q3 BX BX2 CB K3 K32
 go_upto_region 4 with (fail)
 refine wp_gen (fun W => Mu w.heap.size w.heap.size g2 g3 w3.heap.size w W a b (part z 0)) ⟨BX3.out.up ((ag _ _).alloc (ae _) _), N3.out, BX3.out.below.size, Nat.ne_of_gt BX3.out.k1.lt, Nat.ne_of_gt BX3.out.k2.lt, Nat.ne_of_gt K33.out.lt, K33.out.al _, Bk.new_ _ _ _⟩ ?_
 intro W4 MU
 have N4 : Hd (w.heap.size ≤ w3.heap.size) := ⟨MU.out.s4⟩
 generalize w3.heap.size = g4 at MU N4 ⊢
 clear BX3 K33
 go_wp2_with fail
 go_loopw [7] (fun v wr => ∃ i : Nat, v = .int .i64 i ∧ i ≤ 4 ∧ Hd (Mu w.heap.size w.heap.size g2 g3 g4 w wr a b (part z i))) (fun v _ => 4 - (intOf v).toNat)
 case atStart => exact ⟨0, rfl, by omega, MU⟩
 case round =>
  clear MU
  obtain ⟨i, rfl, hi, MU⟩ := hrel
  by_cases hlt : i < 4
  ·obtain ⟨x, HX, hcx⟩ := cellM MU.out.bo.k1 hlt
   obtain ⟨y, HY, hcy⟩ := cellM MU.out.bo.k2 hlt
   obtain ⟨u, HU, hcu⟩ := cellM MU.out.k4 hlt
   obtain ⟨x0, x1⟩ := mon_rng HM.out.1 hlt HX.out
   obtain ⟨y0, y1⟩ := mon_rng HM.out.2 hlt HY.out
   have HZ := aa (HAB.out hlt HX.out HY.out)
   have hw : IntKind.i64.wrap (x + y) = x + y := by rw [IntKind.wrap_i64]; omega
   have fz := MU.out.k4.froz i
   have HN1 := MU.out.n1
   have HN2 := MU.out.n2
   have HMU := aa (fun n => (MU.out.dn n).set hlt HZ.out)
   have i1 : (i : Int) < 4 := by omega
   have i3 : (0 : Int) ≤ i := by omega
   go_wp2_with fail
   go_region_held3 (fun w' => Hd (Below w.heap.size w w') ∧ w'.cell? ⟨w.heap.size, i, none⟩ = some (.int .i64 x) ∧ w'.cell? ⟨g2, i, none⟩ = some (.int .i64 y))
    (first
     | exact ⟨⟨MU.out.bo.below⟩, hcx, hcy⟩
     | exact ⟨⟨(MU.out.dn 1).bo.below⟩, hcx, hcy⟩
     | exact ⟨⟨(MU.out.dn 1).bo.below.setCell MU.out.s4 _⟩, (far1 rfl HN1).trans hcx, (far1 rfl HN2).trans hcy⟩)
    (fail)
   all_goals
    go_wp2_with fail
    go_roundw
    case measure => first | (simp [intOf]; done) | (simp [intOf]; omega)
    case rel => exact ⟨_, by go_num, by omega, ⟨HMU.out 1⟩⟩
  ·obtain rfl : i = 4 := by omega
   have MU : Hd (Mu w.heap.size w.heap.size g2 g3 g4 w wr a b z) := MU
   obtain ⟨q0, q1, q2, q3⟩ := MU.out.k4.four
   cases hz : monMay z
   ·rw [hz] at CM HE
    have HF : Hd (E = (80, zeroM)) := ⟨by rw [HE.out]; rfl⟩
    clear hz
    go_wp2_with fail
    refine (CM.out _).mono ?_
    rintro e w6 ⟨rfl, hb⟩
    have BB := aa (MU.out.bo.below.trans (hb.mono MU.out.bo.below.size))
    have K36 := aa (MU.out.k3.up hb)
    obtain ⟨r0, r1, r2, r3⟩ := K36.out.four
    have fz := fun i => K36.out.froz i
    clear hb
    go_wp2_with fail
    refine bodyPost_ret (res_mono2 rfl _ _ g3 _ rfl (K36.out.set4' _ _ _ _) rfl) rfl ?_
    rw [HF.out]
    exact ⟨rfl, Below.set4 BB.out N3.out _ _ _ _⟩
   ·rw [hz] at CM HE
    have HF : Hd (E = (0, z)) := ⟨by rw [HE.out]; rfl⟩
    clear hz
    go_wp2_with fail
    refine (CM.out _).mono ?_
    rintro e w6 ⟨rfl, hb⟩
    have BB := aa (MU.out.bo.below.trans (hb.mono MU.out.bo.below.size))
    have K36 := aa (MU.out.k3.up hb)
    obtain ⟨q0, q1, q2, q3⟩ := (MU.out.k4.up hb).four
    obtain ⟨r0, r1, r2, r3⟩ := K36.out.four
    have fz := fun i => K36.out.froz i
    clear hb
    go_wp2_with fail
    refine bodyPost_ret (res_mono2 rfl _ _ g3 _ rfl (K36.out.set4' _ _ _ _) rfl) rfl ?_
    rw [HF.out]
    exact ⟨rfl, Below.set4 BB.out N3.out _ _ _ _⟩
end Go.Proofs.YtgjkgkgieeoalaaGreat
