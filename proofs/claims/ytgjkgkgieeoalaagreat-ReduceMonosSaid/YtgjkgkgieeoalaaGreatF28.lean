/- Parts of the proof, joined: each theorem says what it shows. -/
import Derived.Test.YtgjkgkgieeoalaaGreatF01
import Derived.Test.YtgjkgkgieeoalaaGreatF24
import Derived.Test.YtgjkgkgieeoalaaGreatF16
import Derived.Test.YtgjkgkgieeoalaaGreatF23
import Derived.Test.YtgjkgkgieeoalaaGreatF20
import Derived.Test.YtgjkgkgieeoalaaGreatF09
import Derived.Test.YtgjkgkgieeoalaaGreatF19
import Derived.Test.YtgjkgkgieeoalaaGreatF06
import Derived.ChangeKeysEq
set_option linter.unusedVariables false
set_option linter.unusedSimpArgs false
set_option maxHeartbeats 24000000
set_option maxRecDepth 100000
namespace Go.Proofs.YtgjkgkgieeoalaaGreat
open Go.RowKit Go.PlainAid
theorem fromF_ok {b : Int} : ∀ {l : List Int} {v : Nat}, (limbs v).length ≤ 8 → U64 (fromF b v l).2 ∧ (fromF b v l).2.length ≤ 8
 | [], v, h => ⟨limbs_u64 _, h⟩
 | d :: ds, v, _ => by
   unfold fromF
   split
   ·exact ⟨U64.nil, by simp⟩
   ·rename_i h
    exact fromF_ok (by omega)
theorem numD_ok (s : ByteArray) : U64 (numD s).2 ∧ (numD s).2.length ≤ 8 := by
 unfold numD
 split
 ·exact ⟨U64.nil, by simp⟩
 ·split
  ·exact ⟨U64.nil, by simp⟩
  ·split
   ·exact ⟨U64.nil, by simp⟩
   ·exact fromF_ok (by rw [limbs_zero]; decide)
theorem nempty {s : ByteArray} (h : ¬ s.size = 0) : s.data.toList.isEmpty = false := by
 obtain ⟨⟨l⟩⟩ := s
 cases l with
 | nil => exact absurd rfl h
 | cons x l => rfl
theorem size_nil {s : ByteArray} (h : s.size = 0) : s = ⟨#[]⟩ := by
 obtain ⟨⟨l⟩⟩ := s
 cases l with
 | nil => rfl
 | cons x l => simp [ByteArray.size] at h
def valueD (f : FacD) : Int × RatD :=
 if (numD f.up).1 ≠ 0 then ((numD f.up).1, zeroD) else
 if f.down.size = 0 then makeD false (numD f.up).2 [1] else
 if (numD f.down).1 ≠ 0 then ((numD f.down).1, zeroD) else makeD false (numD f.up).2 (numD f.down).2
theorem num_value (b0 : Nat) (f : FacD) (w : World) (hb0 : b0 ≤ w.heap.size) (hu : f.up.size ≤ maxLen) (hd : f.down.size ≤ maxLen) :
    Calls Tryz.prog 268 #[.agg f.v] w fun e w' => ∃ v, e = .returned (.tuple #[v, .int .i64 (valueD f).1]) ∧ RRat w' b0 v (valueD f).2 ∧ Below w.heap.size w w' := by
 obtain ⟨vr, up, down⟩ := f
 dsimp only at hu hd
 obtain ⟨E, hE⟩ : ∃ E, valueD ⟨vr, up, down⟩ = E := ⟨_, rfl⟩
 rw [hE]
 have HE := aa hE
 clear hE
 unfold valueD at HE
 dsimp only at HE
 have HB0 := aa hb0
 have CU := aa (fun W => num_parse up W hu)
 have NU := aa (numD_ok up)
 have CD := aa (fun W => num_parse down W hd)
 have ND := aa (numD_ok down)
 obtain ⟨⟨eu, U⟩, hU⟩ : ∃ X, numD up = X := ⟨_, rfl⟩
 obtain ⟨⟨ed, D⟩, hD⟩ : ∃ X, numD down = X := ⟨_, rfl⟩
 rw [hU] at CU NU HE
 rw [hD] at CD ND HE
 dsimp only at CU NU HE CD ND
 unfold maxLen at hu hd
 clear hU hD hb0
 go_enter Tryz.func268, Tryz.ntmps268
 go_upto_region 1 with (fail)
 refine wp_gen (fun W => Bo2 w.heap.size w.heap.size (w.heap.size + 1) w W 292 64 #[.int .i64 vr, .string up, .string down] #[.bool false, .slice none 0 0, .slice none 0 0]) (Bo2.mk2 w _ _ _ _) ?_
 intro W BX
 have HG2 : Hd (w.heap.size ≤ w.heap.size + 1) := ⟨Nat.le_succ _⟩
 generalize w.heap.size + 1 = g2 at BX HG2 ⊢
 obtain ⟨q0, q1, q2⟩ := BX.out.k1.three
 go_wp2_with fail
 refine (CU.out _).mono ?_
 rintro e w2 ⟨v, rfl, ho, hb⟩
 have BX2 := aa (BX.out.up hb)
 obtain ⟨A1, c1, rfl, hc1, _, hr1⟩ := ho.reads
 have HR1 := aa hr1
 clear ho hb q0 q1 q2 BX hr1
 by_cases hz : eu = 0
 case neg =>
  have e1 : (eu != 0) = true := by rw [bne_iff_ne]; exact hz
  have HT : Hd (E = (eu, zeroD)) := ⟨by rw [← HE.out]; exact if_pos hz⟩
  obtain ⟨p0, p1, p2⟩ := BX2.out.k2.three
  have fz := fun i => BX2.out.k2.froz i
  clear hz HE
  go_wp2_with fail
  refine bodyPost_ret (res_rat2 rfl _ _ g2 _ rfl (BX2.out.k2.set3 _ _ _) rfl) rfl ?_
  rw [HT.out]
  exact ⟨_, rfl, RRat.zero _ _, ((BX2.out.below.setCell HG2.out _).setCell HG2.out _).setCell HG2.out _⟩
 have e1 : (eu != 0) = false := by rw [hz]; rfl
 have HE1 := aa (HE.out.symm.trans (if_neg (by simpa using hz)))
 have CO := aa (fun W => rnat_Of 1 (by omega) (by omega) W)
 rw [show limbs (1 : Int).toNat = [1] from limbs_1] at CO
 obtain ⟨q0, q1, q2⟩ := BX2.out.k1.three
 clear hz HE
 go_wp2_with fail
 refine (CO.out _).mono ?_
 rintro e w3 ⟨v, rfl, ho, hb⟩
 have BX3 := aa (BX2.out.up hb)
 have HR3 := aa (HR1.out.up hb)
 obtain ⟨A2, c2, rfl, hc2, _, hr2⟩ := ho.reads
 have HR2 := aa hr2
 clear ho hb q0 q1 q2 BX2 HR1 hr2
 obtain ⟨q0, q1, q2⟩ := BX3.out.k1.three
 by_cases hd0 : down.size = 0
 ·obtain rfl := size_nil hd0
  have HE2 := aa (HE1.out.trans (if_pos hd0))
  have CM := aa (rrat_Make b0 false A1 A2 c1 c2 U [1] w3 (ah HB0.out BX3.out.below.size) HR3.out hc1 HR2.out hc2 NU.out.1 (u64_one (by omega) (by omega)) (by have := NU.out.2; omega) (by simp))
  rw [← HE2.out] at CM
  simp only [List.length_cons, List.length_nil, Nat.zero_add] at CM
  clear HE1 hd0 CD ND CU CO
  go_wp2_with fail
  refine CM.out.mono ?_
  rintro e w5 ⟨v, rfl, hr, hb⟩
  have BX5 := aa (BX3.out.up hb)
  have HR := aa hr
  obtain ⟨XA, xc, XB, xd, rfl, _, _, _, _⟩ := hr
  obtain ⟨p0, p1, p2⟩ := BX5.out.k2.three
  have fz := fun i => BX5.out.k2.froz i
  clear hb CM BX3
  go_wp2_with fail
  refine bodyPost_ret (res_rat2 rfl _ _ g2 _ rfl (BX5.out.k2.set3 _ _ _) rfl) rfl ?_
  exact ⟨_, rfl, RRat.set3 HR.out BX5.out.k2 (ah HB0.out HG2.out) _ _ _, ((BX5.out.below.setCell HG2.out _).setCell HG2.out _).setCell HG2.out _⟩
 ·have hdn : down ≠ ⟨#[]⟩ := fun e => hd0 (by rw [e]; rfl)
  have e2 : down.toList.isEmpty = false := by rw [ByteArray.toList_eq]; exact nempty hd0
  have HE2 := aa (HE1.out.trans (if_neg hd0))
  clear HE1 hd0 hdn
  go_wp2_with fail
  refine (CD.out _).mono ?_
  rintro e w5 ⟨v, rfl, ho, hb⟩
  have BX5 := aa (BX3.out.up hb)
  have HR5 := aa (HR3.out.up hb)
  obtain ⟨A4, c4, rfl, hc4, _, hr4⟩ := ho.reads
  have HR4 := aa hr4
  clear ho hb q0 q1 q2 BX3 HR3 HR2 hr4 CD CU CO e2
  by_cases hz : ed = 0
  case neg =>
   have e1 : (ed != 0) = true := by rw [bne_iff_ne]; exact hz
   have HT : Hd (E = (ed, zeroD)) := ⟨by rw [HE2.out]; exact if_pos hz⟩
   obtain ⟨p0, p1, p2⟩ := BX5.out.k2.three
   have fz := fun i => BX5.out.k2.froz i
   clear hz HE2
   go_wp2_with fail
   refine bodyPost_ret (res_rat2 rfl _ _ g2 _ rfl (BX5.out.k2.set3 _ _ _) rfl) rfl ?_
   rw [HT.out]
   exact ⟨_, rfl, RRat.zero _ _, ((BX5.out.below.setCell HG2.out _).setCell HG2.out _).setCell HG2.out _⟩
  have e1 : (ed != 0) = false := by rw [hz]; rfl
  have HE3 := aa (HE2.out.trans (if_neg (by simpa using hz)))
  have CM := aa (rrat_Make b0 false A1 A4 c1 c4 U D w5 (ah HB0.out BX5.out.below.size) HR5.out hc1 HR4.out hc4 NU.out.1 ND.out.1 (by have := NU.out.2; omega) (by have := ND.out.2; omega))
  rw [← HE3.out] at CM
  clear hz HE2
  go_wp2_with fail
  refine CM.out.mono ?_
  rintro e w6 ⟨v, rfl, hr, hb⟩
  have BX6 := aa (BX5.out.up hb)
  have HR := aa hr
  obtain ⟨XA, xc, XB, xd, rfl, _, _, _, _⟩ := hr
  obtain ⟨p0, p1, p2⟩ := BX6.out.k2.three
  have fz := fun i => BX6.out.k2.froz i
  clear hb CM BX5
  go_wp2_with fail
  refine bodyPost_ret (res_rat2 rfl _ _ g2 _ rfl (BX6.out.k2.set3 _ _ _) rfl) rfl ?_
  exact ⟨_, rfl, RRat.set3 HR.out BX6.out.k2 (ah HB0.out HG2.out) _ _ _, ((BX6.out.below.setCell HG2.out _).setCell HG2.out _).setCell HG2.out _⟩
def unitM (v : Int) (l : List Int) : MonD := ⟨if v = 0 then l.getD 0 0 else 0, if v = 1 then l.getD 0 0 else 0, if v = 2 then l.getD 0 0 else 0, if v = 3 then l.getD 0 0 else 0⟩
def expBad (n : Int × List Int) : Bool := !decide (n.1 = 0) || (decide (1 < n.2.length) || (decide (n.2.length = 1) && decide (40 < n.2.getD 0 0)))
theorem valueD_short (f : FacD) : (valueD f).2.short := by
 unfold valueD
 have h1 : U64 [1] := u64_one (by omega) (by omega)
 split
 ·exact zeroD_short
 ·split
  ·exact makeD_short (numD_ok _).1 h1
  ·split
   ·exact zeroD_short
   ·exact makeD_short (numD_ok _).1 (numD_ok _).1
def termF : List FacD → TermD → Int × TermD
 | [], t => (0, t)
 | f :: fs, t =>
   if f.var < 0 then
    if (valueD f).1 ≠ 0 then ((valueD f).1, t) else
    if (mulD t.c (valueD f).2).1 ≠ 0 then ((mulD t.c (valueD f).2).1, t) else termF fs ⟨(mulD t.c (valueD f).2).2, t.m⟩
   else if expBad (numD f.up) = true then (80, t) else
    if (monMul t.m (unitM f.var (numD f.up).2)).1 ≠ 0 then ((monMul t.m (unitM f.var (numD f.up).2)).1, t) else termF fs ⟨t.c, (monMul t.m (unitM f.var (numD f.up).2)).2⟩
theorem negD_short' {r : RatD} (h : r.short) : (negD r).short := by
 unfold negD
 split
 ·exact h
 ·exact h
theorem termF_num {f : FacD} {fs : List FacD} {t : TermD} (h : f.var < 0) : termF (f :: fs) t = if (valueD f).1 ≠ 0 then ((valueD f).1, t) else
      if (mulD t.c (valueD f).2).1 ≠ 0 then ((mulD t.c (valueD f).2).1, t) else termF fs ⟨(mulD t.c (valueD f).2).2, t.m⟩ := if_pos h
theorem termF_var {f : FacD} {fs : List FacD} {t : TermD} (h : ¬ f.var < 0) : termF (f :: fs) t = if expBad (numD f.up) = true then (80, t) else
      if (monMul t.m (unitM f.var (numD f.up).2)).1 ≠ 0 then ((monMul t.m (unitM f.var (numD f.up).2)).1, t) else termF fs ⟨t.c, (monMul t.m (unitM f.var (numD f.up).2)).2⟩ := if_neg h
def termD (p : ProdD) : Int × TermD :=
 let x := termF p.fs ⟨ofD 1, zeroM⟩
 if x.1 ≠ 0 then x else (0, if p.neg = true then ⟨negD x.2.c, x.2.m⟩ else x.2)
structure FacOk (f : FacD) : Prop where
 v : f.var ≤ 3
 up : f.up.size ≤ maxLen
 down : f.down.size ≤ maxLen
abbrev zeroT : Array Value := #[.bool false, .slice none 0 0, .slice none 0 0, .int .i64 0, .int .i64 0, .int .i64 0, .int .i64 0]
structure Te (b0 S gp gr gt : Nat) (w0 w : World) (pv : Array Value) (t : TermD) (A : Option Addr) (c : Nat) (B : Option Addr) (d : Nat) : Prop where
 below : Below S w0 w
 sp : S ≤ gp
 sr : S ≤ gr
 st : S ≤ gt
 n1 : gp ≠ gr
 n2 : gp ≠ gt
 n3 : gr ≠ gt
 kp : Bk w gp 251 pv
 kr : Bk w gr 68 zeroT
 kt : Bk w gt 68 (t.v A c B d)
 rt : RTerm w b0 (.agg (t.v A c B d)) t
 sh : t.c.short
section
variable {b0 S gp gr gt : Nat} {w0 w w' : World} {pv : Array Value} {t : TermD} {A B : Option Addr} {c d : Nat}
theorem Te.up (h : Te b0 S gp gr gt w0 w pv t A c B d) (hb : Below w.heap.size w w') : Te b0 S gp gr gt w0 w' pv t A c B d :=
 ⟨h.below.trans (hb.mono (ah h.sp (Nat.le_of_lt h.kp.lt))), h.sp, h.sr, h.st, h.n1, h.n2, h.n3, h.kp.up hb, h.kr.up hb, h.kt.up hb, h.rt.up hb, h.sh⟩
theorem Te.dn (h : Te b0 S gp gr gt w0 w pv t A c B d) (n : Nat) : Te b0 S gp gr gt w0 (w.drewN n) pv t A c B d := h.up (Below.dn (ag _ _) n)
theorem Te.al (h : Te b0 S gp gr gt w0 w pv t A c B d) (o : Obj) : Te b0 S gp gr gt w0 (w.alloc o) pv t A c B d := h.up ((ag _ _).alloc (ae _) _)
theorem Te.setC (h : Te b0 S gp gr gt w0 w pv t A c B d) (hb : b0 ≤ S) {r : RatD} {A' B' : Option Addr} {c' d' : Nat} (hr : RRat w b0 (.agg #[.bool r.neg, .slice A' r.num.length c', .slice B' r.den.length d']) r) (hs : r.short) :
    Te b0 S gp gr gt w0 (((w.setCell ⟨gt, 0, none⟩ (.bool r.neg)).setCell ⟨gt, 1, none⟩ (.slice A' r.num.length c')).setCell ⟨gt, 2, none⟩ (.slice B' r.den.length d')) pv ⟨r, t.m⟩ A' c' B' d' :=
 have hg : ∀ g, some gt = some g → b0 ≤ g ∧ ∃ ty cs, Bk w g ty cs ∧ ty ≠ 112 := fun g e => by injection e with e; subst e; exact ⟨ah hb h.st, _, _, h.kt, by decide⟩
 ⟨((h.below.setCell h.st _).setCell h.st _).setCell h.st _, h.sp, h.sr, h.st, h.n1, h.n2, h.n3, ((h.kp.far h.n2 _).far h.n2 _).far h.n2 _, ((h.kr.far h.n3 _).far h.n3 _).far h.n3 _,
  ((h.kt.set_ 0 _).set_ 1 _).set_ 2 _, (rterm_of hr t.m).grown (((set_grown w ⟨gt, 0, none⟩ _).set _ _).set _ _) hg, hs⟩
theorem Te.setM (h : Te b0 S gp gr gt w0 w pv t A c B d) (hb : b0 ≤ S) (m : MonD) :
    Te b0 S gp gr gt w0 ((((w.setCell ⟨gt, 3, none⟩ (.int .i64 m.x0)).setCell ⟨gt, 4, none⟩ (.int .i64 m.x1)).setCell ⟨gt, 5, none⟩ (.int .i64 m.x2)).setCell ⟨gt, 6, none⟩ (.int .i64 m.x3)) pv ⟨t.c, m⟩ A c B d :=
 have hg : ∀ g, some gt = some g → b0 ≤ g ∧ ∃ ty cs, Bk w g ty cs ∧ ty ≠ 112 := fun g e => by injection e with e; subst e; exact ⟨ah hb h.st, _, _, h.kt, by decide⟩
 ⟨(((h.below.setCell h.st _).setCell h.st _).setCell h.st _).setCell h.st _, h.sp, h.sr, h.st, h.n1, h.n2, h.n3, (((h.kp.far h.n2 _).far h.n2 _).far h.n2 _).far h.n2 _, (((h.kr.far h.n3 _).far h.n3 _).far h.n3 _).far h.n3 _,
  (((h.kt.set_ 3 _).set_ 4 _).set_ 5 _).set_ 6 _, (rterm_of h.rt.rat m).grown ((((set_grown w ⟨gt, 3, none⟩ _).set _ _).set _ _).set _ _) hg, h.sh⟩
theorem unit_set {w : World} {g k : Nat} {ty : TypeId} {y : Int} {m : MonD} (hk : k < 4) (h : Bk w g ty #[.int .i64 0, .int .i64 0, .int .i64 0, .int .i64 0]) (hm : m = ⟨if (k : Int) = 0 then y else 0, if (k : Int) = 1 then y else 0, if (k : Int) = 2 then y else 0, if (k : Int) = 3 then y else 0⟩) :
    Bk (w.setCell ⟨g, k, none⟩ (.int .i64 y)) g ty #[.int .i64 m.x0, .int .i64 m.x1, .int .i64 m.x2, .int .i64 m.x3] := by
 subst hm
 rcases (show k = 0 ∨ k = 1 ∨ k = 2 ∨ k = 3 by omega) with rfl | rfl | rfl | rfl <;> exact h.set_ _ _
theorem Te.far (h : Te b0 S gp gr gt w0 w pv t A c B d) (hb : b0 ≤ S) {g : Nat} {cs : Array Value} (hk : Bk w g 66 cs) (hg : S ≤ g) (i : Nat) (u : Value) : Te b0 S gp gr gt w0 (w.setCell ⟨g, i, none⟩ u) pv t A c B d :=
 ⟨h.below.setCell hg _, h.sp, h.sr, h.st, h.n1, h.n2, h.n3, h.kp.far (Bk.ne_ h.kp hk (by decide)) _, h.kr.far (Bk.ne_ h.kr hk (by decide)) _, h.kt.far (Bk.ne_ h.kt hk (by decide)) _,
  h.rt.grown (set_grown w ⟨g, i, none⟩ u) (fun g' e => by injection e with e; subst e; exact ⟨ah hb hg, _, _, hk, by decide⟩), h.sh⟩
theorem Te.done (h : Te b0 S gp gr gt w0 w pv t A c B d) (hb : b0 ≤ S) : Bk (Proofs.YtgjkgkgieeoalaaGreat.set7 w gr (.bool t.c.neg) (.slice A t.c.num.length c) (.slice B t.c.den.length d) (.int .i64 t.m.x0) (.int .i64 t.m.x1) (.int .i64 t.m.x2) (.int .i64 t.m.x3)) gr 68 (t.v A c B d) ∧
    RTerm (Proofs.YtgjkgkgieeoalaaGreat.set7 w gr (.bool t.c.neg) (.slice A t.c.num.length c) (.slice B t.c.den.length d) (.int .i64 t.m.x0) (.int .i64 t.m.x1) (.int .i64 t.m.x2) (.int .i64 t.m.x3)) b0 (.agg (t.v A c B d)) t ∧
    Below S w0 (Proofs.YtgjkgkgieeoalaaGreat.set7 w gr (.bool t.c.neg) (.slice A t.c.num.length c) (.slice B t.c.den.length d) (.int .i64 t.m.x0) (.int .i64 t.m.x1) (.int .i64 t.m.x2) (.int .i64 t.m.x3)) :=
 ⟨h.kr.set7 _ _ _ _ _ _ _, RTerm.set7 h.rt h.kr (ah hb h.sr) _ _ _ _ _ _ _, Below.set7 h.below h.sr _ _ _ _ _ _ _⟩
end
theorem res_term2 {fn : Func} {p u : Tmp} (h : fn.results = #[.cell p 68, .tmp u]) (tmps : Array Value) (w : World) (g : Nat) (cs : Array Value) (hp : tmps.getD p undef = .pointer (some ⟨g, 0, none⟩)) (hk : Bk w g 68 cs) (hc : cs.size = 7) :
    (results fn tmps).run Tryz.prog w = .ok (.tuple #[.agg cs, tmps.getD u undef]) w := by
 obtain ⟨f, h1⟩ := st_of Tryz.stTerm
 rw [results_cell_tmp h, hp]
 have hl := run_loadVar_row (P := Tryz.prog) w g 68 68 cs (0, 0) (.struct f) hk h1 rfl (by rw [hc]; exact Tryz.szTerm)
 simp [asAddr, hl, Result.andThen]
theorem cellsF_get : ∀ {fs : List FacD} {i : Nat} {f : FacD}, fs[i]? = some f → (cellsF fs)[i * 3]? = some (.int .i64 f.var) ∧ (cellsF fs)[i * 3 + 1]? = some (.string f.up) ∧ (cellsF fs)[i * 3 + 2]? = some (.string f.down)
 | [], i, m, h => by simp at h
 | x :: fs, 0, m, h => by
   simp only [List.getElem?_cons_zero, Option.some.injEq] at h
   subst h
   exact ⟨rfl, rfl, rfl⟩
 | x :: fs, i + 1, f, h => by
   have := cellsF_get (fs := fs) (i := i) (f := f) (by simpa using h)
   have e : cellsF (x :: fs) = .int .i64 x.var :: .string x.up :: .string x.down :: cellsF fs := rfl
   rw [e, show (i + 1) * 3 = i * 3 + 1 + 1 + 1 by omega]
   simpa using this
theorem ref_term (b0 : Nat) (p : ProdD) (A : Option Addr) (c : Nat) (w : World) (hb0 : b0 ≤ w.heap.size) (h : Rd w w.heap.size 3 A p.fs.length (cellsF p.fs)) (hf : ∀ f ∈ p.fs, FacOk f) (hl : p.fs.length ≤ maxLen) :
    Calls Tryz.prog 223 #[.agg #[.bool p.neg, .slice A p.fs.length c]] w fun e w' => ∃ XA xc XB xd, e = .returned (.tuple #[.agg ((termD p).2.v XA xc XB xd), .int .i64 (termD p).1]) ∧ RTerm w' b0 (.agg ((termD p).2.v XA xc XB xd)) (termD p).2 ∧ Below w.heap.size w w' := by
 obtain ⟨neg, fs⟩ := p
 dsimp only at h hf hl
 obtain ⟨E, hE⟩ : ∃ E, termD ⟨neg, fs⟩ = E := ⟨_, rfl⟩
 rw [hE]
 have HE := aa hE
 clear hE
 unfold termD at HE
 dsimp only at HE
 have HB0 := aa hb0
 have HP := aa h
 have HF := aa hf
 have CO := aa (fun W hW => rrat_Of b0 1 W hW (by omega) (by omega))
 have HS1 := aa (ofD_short 1 (by decide))
 obtain ⟨R, hR⟩ : ∃ R, ofD 1 = R := ⟨_, rfl⟩
 rw [hR] at CO HS1 HE
 have HErr := aa (fun (e : Int) (t' : TermD) (he : e ≠ 0) (hx : termF fs ⟨R, zeroM⟩ = (e, t')) => show E = (e, t') from by rw [← HE.out, hx, if_pos he])
 unfold maxLen at hl
 clear h hf hb0 hR
 go_enter Tryz.func223, Tryz.ntmps223
 go_upto_region 1 with (fail)
 refine wp_gen (fun W => Bo2 w.heap.size w.heap.size (w.heap.size + 1) w W 251 68 #[.bool neg, .slice A fs.length c] zeroT) (Bo2.mk2 w _ _ _ _) ?_
 intro W BX
 have HG2 : Hd (w.heap.size ≤ w.heap.size + 1) := ⟨Nat.le_succ _⟩
 generalize w.heap.size + 1 = g2 at BX HG2 ⊢
 go_wp2_with fail
 refine (CO.out _ (ah HB0.out BX.out.below.size)).mono ?_
 rintro e w2 ⟨x, rfl, hx, hb⟩
 have BX2 := aa (BX.out.up hb)
 have HX := aa hx
 obtain ⟨XA, xc, XB, xd, rfl, _, _, _, _⟩ := hx
 clear hb BX CO
 go_upto_region 2 with (fail)
 refine wp_gen (fun W => Te b0 w.heap.size w.heap.size g2 w2.heap.size w W #[.bool neg, .slice A fs.length c] ⟨R, zeroM⟩ XA xc XB xd) ?_ ?_
 ·exact ⟨BX2.out.below.alloc (Nat.le_of_lt (Nat.lt_of_le_of_lt BX2.out.s1 BX2.out.k1.lt)) _, BX2.out.s1, BX2.out.s2, Nat.le_of_lt (Nat.lt_of_le_of_lt BX2.out.s1 BX2.out.k1.lt), BX2.out.n12, Nat.ne_of_lt BX2.out.k1.lt, Nat.ne_of_lt BX2.out.k2.lt, BX2.out.k1.al _, BX2.out.k2.al _, Bk.new_ _ _ _, (rterm_of HX.out zeroM).up ((ag _ _).alloc (ae _) _), HS1.out⟩
 intro W3 T3
 clear BX2 HX
 generalize w2.heap.size = g4 at T3 ⊢
 go_wp2_with fail
 go_loopw [5] (fun v5 wr => ∃ (i : Nat) (t : TermD) (TA : Option Addr) (tc : Nat) (TB : Option Addr) (td : Nat), v5 = .int .i64 i ∧ i ≤ fs.length ∧ Hd (Te b0 w.heap.size w.heap.size g2 g4 w wr #[.bool neg, .slice A fs.length c] t TA tc TB td) ∧ Hd (termF fs ⟨R, zeroM⟩ = termF (fs.drop i) t)) (fun v _ => fs.length - (intOf v).toNat)
 case atStart => exact ⟨0, _, _, _, _, _, rfl, by omega, T3, ⟨rfl⟩⟩
 case round =>
  clear T3 HS1
  obtain ⟨i, t, TA, tc, TB, td, rfl, hi, HT, HQ⟩ := hrel
  obtain ⟨p0, p1⟩ := HT.out.kp.two'
  obtain ⟨⟨t0, t1, t2⟩, t3, t4, t5, t6⟩ := HT.out.kt.seven
  have fzt := fun i => HT.out.kt.froz i
  obtain ⟨⟨r0, r1, r2⟩, r3, r4, r5, r6⟩ := HT.out.kr.seven
  have fzr := fun i => HT.out.kr.froz i
  by_cases hlt : i < fs.length
  ·have i1 : (i : Int) < fs.length := by omega
   have i0 : (0 : Int) ≤ i := by omega
   obtain ⟨f, hfi⟩ : ∃ f, fs[i]? = some f := ⟨_, ai hlt⟩
   obtain ⟨ad, eA, hab, hca⟩ := (HP.out.below HT.out.below).2 (by omega)
   obtain ⟨f0, f1, f2⟩ := cellsF_get hfi
   have q0 := hca _ _ f0
   have q1 := hca _ _ f1
   have q2 := hca _ _ f2
   rw [add_pos _ _ 1 (by omega)] at q1
   rw [add_pos _ _ 2 (by omega)] at q2
   subst eA
   have HFO := aa (HF.out f (List.mem_of_getElem? hfi))
   have HD : Hd (termF fs ⟨R, zeroM⟩ = termF (f :: fs.drop (i + 1)) t) := ⟨by
    have e1 : fs[i] = f := by rw [ai hlt] at hfi; injection hfi
    rw [HQ.out, List.drop_eq_getElem_cons hlt, e1]⟩
   obtain ⟨fv, fu, fd⟩ := f
   dsimp only at q0 q1 q2
   clear hfi f0 f1 f2 hca HQ
   go_upto_region 6 with (fail)
   refine wp_gen (fun W => Te b0 w.heap.size w.heap.size g2 g4 w W #[.bool neg, .slice (some ad) fs.length c] t TA tc TB td ∧ Bk W wr.heap.size 292 #[.int .i64 fv, .string fu, .string fd]) ⟨HT.out.al _, Bk.new_ _ _ _⟩ ?_
   intro W6 h6
   generalize wr.heap.size = gf at h6 ⊢
   have HT6 := aa h6.out.1
   have HK6 := aa h6.out.2
   clear h6 HT p0 p1 q0 q1 q2 t0 t1 t2 t3 t4 t5 t6 r0 r1 r2 r3 r4 r5 r6 fzt fzr hab
   obtain ⟨k0, k1, k2⟩ := HK6.out.three
   by_cases hneg : fv < 0
   ·have CV := aa (fun W hW => num_value b0 ⟨fv, fu, fd⟩ W hW HFO.out.up HFO.out.down)
    have HV := aa (HD.out.trans (termF_num hneg))
    have HVS := aa (valueD_short ⟨fv, fu, fd⟩)
    obtain ⟨⟨ev, V⟩, hV⟩ : ∃ X, valueD ⟨fv, fu, fd⟩ = X := ⟨_, rfl⟩
    rw [hV] at CV HV HVS
    dsimp only [FacD.v] at CV HV HVS
    clear hV HD
    go_wp2_with fail
    refine (CV.out _ (ah HB0.out HT6.out.below.size)).mono ?_
    rintro e w7 ⟨x, rfl, hx, hb⟩
    have HT7 := aa (HT6.out.up hb)
    have HX7 := aa hx
    obtain ⟨VA, vc, VB, vd, rfl, _, _, _, _⟩ := hx
    clear hb CV k0 k1 k2 HT6 HK6
    go_upto_region 8 with (fail)
    refine wp_gen (fun W => Te b0 w.heap.size w.heap.size g2 g4 w W #[.bool neg, .slice (some ad) fs.length c] t TA tc TB td ∧ Bk W w7.heap.size 64 #[.bool V.neg, .slice VA V.num.length vc, .slice VB V.den.length vd] ∧ RRat W b0 (.agg #[.bool V.neg, .slice VA V.num.length vc, .slice VB V.den.length vd]) V) ⟨HT7.out.al _, Bk.new_ _ _ _, HX7.out.up ((ag _ _).alloc (ae _) _)⟩ ?_
    intro W8 h8
    generalize w7.heap.size = g7 at h8 ⊢
    have HT8 := aa h8.out.1
    have HK8 := aa h8.out.2.1
    have HX8 := aa h8.out.2.2
    clear h8 HT7 HX7
    obtain ⟨⟨t0, t1, t2⟩, t3, t4, t5, t6⟩ := HT8.out.kt.seven
    obtain ⟨⟨r0, r1, r2⟩, r3, r4, r5, r6⟩ := HT8.out.kr.seven
    have fzr := fun i => HT8.out.kr.froz i
    by_cases hz : ev = 0
    case neg =>
     have e1 : (ev != 0) = true := by rw [bne_iff_ne]; exact hz
     have HT : Hd (E = (ev, t)) := ⟨HErr.out _ _ hz (by rw [HV.out, if_pos hz])⟩
     clear hz HV HErr HE
     go_wp2_with fail
     refine bodyPost_ret (res_term2 rfl _ _ g2 _ rfl (HT8.out.done HB0.out).1 rfl) rfl ?_
     rw [HT.out]
     exact ⟨TA, tc, TB, td, rfl, (HT8.out.done HB0.out).2⟩
    have e1 : (ev != 0) = false := by rw [hz]; rfl
    have HV1 := aa (HV.out.trans (if_neg (by simpa using hz)))
    have CM := aa (rrat_Mul b0 _ _ t.c V W8 (ah HB0.out HT8.out.below.size) HT8.out.rt.rat HX8.out HT8.out.sh HVS.out)
    have HMS := aa (mulD_short t.c V)
    obtain ⟨⟨em, M⟩, hM⟩ : ∃ X, mulD t.c V = X := ⟨_, rfl⟩
    rw [hM] at CM HV1 HMS
    dsimp only at CM HV1 HMS
    obtain ⟨k0, k1, k2⟩ := HK8.out.three
    clear hM hz HV
    go_wp2_with fail
    refine CM.out.mono ?_
    rintro e w9 ⟨x, rfl, hx, hb⟩
    have HT9 := aa (HT8.out.up hb)
    have HX9 := aa hx
    obtain ⟨MA, mc, MB, md, rfl, _, _, _, _⟩ := hx
    clear hb CM k0 k1 k2 t0 t1 t2 t3 t4 t5 t6 r0 r1 r2 r3 r4 r5 r6 fzr HT8 HK8 HX8
    go_upto_region 11 with (fail)
    refine wp_gen (fun W => Te b0 w.heap.size w.heap.size g2 g4 w W #[.bool neg, .slice (some ad) fs.length c] t TA tc TB td ∧ Bk W w9.heap.size 64 #[.bool M.neg, .slice MA M.num.length mc, .slice MB M.den.length md] ∧ RRat W b0 (.agg #[.bool M.neg, .slice MA M.num.length mc, .slice MB M.den.length md]) M) ⟨HT9.out.al _, Bk.new_ _ _ _, HX9.out.up ((ag _ _).alloc (ae _) _)⟩ ?_
    intro W10 h10
    generalize w9.heap.size = g9 at h10 ⊢
    have HT10 := aa h10.out.1
    have HK10 := aa h10.out.2.1
    have HX10 := aa h10.out.2.2
    clear h10 HT9 HX9
    obtain ⟨⟨t0, t1, t2⟩, t3, t4, t5, t6⟩ := HT10.out.kt.seven
    obtain ⟨⟨r0, r1, r2⟩, r3, r4, r5, r6⟩ := HT10.out.kr.seven
    have fzr := fun i => HT10.out.kr.froz i
    have fzt := fun i => HT10.out.kt.froz i
    by_cases hz : em = 0
    case neg =>
     have e1 : (em != 0) = true := by rw [bne_iff_ne]; exact hz
     have HT : Hd (E = (em, t)) := ⟨HErr.out _ _ hz (by rw [HV1.out, if_pos hz])⟩
     clear hz HV1 HErr HE
     go_wp2_with fail
     refine bodyPost_ret (res_term2 rfl _ _ g2 _ rfl (HT10.out.done HB0.out).1 rfl) rfl ?_
     rw [HT.out]
     exact ⟨TA, tc, TB, td, rfl, (HT10.out.done HB0.out).2⟩
    have e1 : (em != 0) = false := by rw [hz]; rfl
    have HV2 := aa (HV1.out.trans (if_neg (by simpa using hz)))
    obtain ⟨k0, k1, k2⟩ := HK10.out.three
    clear hz HV1
    go_wp2_with fail
    go_roundw
    case measure => first | (simp [intOf]; done) | (simp [intOf]; omega)
    case rel => exact ⟨i + 1, ⟨M, t.m⟩, MA, mc, MB, md, by go_num, by omega, ⟨HT10.out.setC HB0.out HX10.out HMS.out⟩, HV2⟩
   ·have hv3 := HFO.out.v
    dsimp only at hv3
    have HV := aa (HD.out.trans (termF_var hneg))
    have CN := aa (num_parse fu W6 HFO.out.up)
    have NU := aa (numD_ok fu)
    obtain ⟨⟨en, N⟩, hN⟩ : ∃ X, numD fu = X := ⟨_, rfl⟩
    rw [hN] at CN NU HV
    dsimp only at CN NU HV
    have hv0 : 0 ≤ fv := by omega
    clear hN HD hneg
    go_wp2_with fail
    refine CN.out.mono ?_
    rintro e w7 ⟨x, rfl, ho, hb⟩
    have HT7 := aa (HT6.out.up hb)
    have HK7 := aa (HK6.out.up hb)
    obtain ⟨NA, nc, rfl, hnc, _, hrn⟩ := ho.reads
    have HRN := aa hrn
    have hn8 := NU.out.2
    clear ho hb hrn CN k0 k1 k2 HT6 HK6
    obtain ⟨k0, k1, k2⟩ := HK7.out.three
    obtain ⟨⟨t0, t1, t2⟩, t3, t4, t5, t6⟩ := HT7.out.kt.seven
    obtain ⟨⟨r0, r1, r2⟩, r3, r4, r5, r6⟩ := HT7.out.kr.seven
    have fzr := fun i => HT7.out.kr.froz i
    have fzt := fun i => HT7.out.kt.froz i
    have HBad : Hd (expBad (en, N) = true → E = (80, t)) := ⟨fun h => HErr.out _ _ (by decide) (by rw [HV.out, if_pos h])⟩
    have HGood : Hd (expBad (en, N) = false → termF fs ⟨R, zeroM⟩ = if (monMul t.m (unitM fv N)).1 ≠ 0 then ((monMul t.m (unitM fv N)).1, t) else termF (fs.drop (i + 1)) ⟨t.c, (monMul t.m (unitM fv N)).2⟩) := ⟨fun h => by rw [HV.out, if_neg (by rw [h]; simp)]⟩
    clear HV
    by_cases hz : en = 0
    case neg =>
     have e1 : (en != 0) = true := by rw [bne_iff_ne]; exact hz
     have HT : Hd (E = (80, t)) := ⟨HBad.out (by unfold expBad; rw [decide_eq_false hz]; rfl)⟩
     clear hz HErr HE HGood HBad
     go_wp2_with fail
     refine bodyPost_ret (res_term2 rfl _ _ g2 _ rfl (HT7.out.done HB0.out).1 rfl) rfl ?_
     rw [HT.out]
     exact ⟨TA, tc, TB, td, rfl, (HT7.out.done HB0.out).2⟩
    have e1 : (en != 0) = false := by rw [hz]; rfl
    subst hz
    by_cases h1 : 1 < N.length
    ·have e2 : (1 : Int) < N.length := by omega
     have HT : Hd (E = (80, t)) := ⟨HBad.out (by unfold expBad; rw [decide_eq_true h1]; simp)⟩
     clear h1 HErr HE HGood HBad
     go_wp2_with fail
     refine bodyPost_ret (res_term2 rfl _ _ g2 _ rfl (HT7.out.done HB0.out).1 rfl) rfl ?_
     rw [HT.out]
     exact ⟨TA, tc, TB, td, rfl, (HT7.out.done HB0.out).2⟩
    have e2 : ¬ (1 : Int) < N.length := by omega
    obtain ⟨m, hm⟩ : ∃ m, unitM fv N = m := ⟨_, rfl⟩
    obtain ⟨x, hx0⟩ : ∃ x, N.getD 0 0 = x := ⟨_, rfl⟩
    have HM : Hd (m = ⟨if fv = 0 then x else 0, if fv = 1 then x else 0, if fv = 2 then x else 0, if fv = 3 then x else 0⟩) := ⟨by rw [← hm, ← hx0]; rfl⟩
    rw [hm] at HGood
    have hxu : 0 ≤ x ∧ x < 18446744073709551616 := by
     rw [← hx0]
     rcases N with _ | ⟨y, N⟩
     ·exact ⟨by simp, by simp⟩
     ·exact NU.out.1 y (by simp)
    clear hm
    by_cases h2 : N.length = 1
    case' neg =>
     have e3 : ((N.length : Int) == 1) = false := by rw [beq_eq_false_iff_ne]; omega
     have HX : Hd (x = 0) := ⟨by rw [← hx0, List.length_eq_zero_iff.1 (by omega : N.length = 0)]; rfl⟩
     have HG := aa (HGood.out (by unfold expBad; rw [decide_eq_false h1, decide_eq_false h2]; simp))
     have HMZ : Hd (m = zeroM) := ⟨by rw [HM.out, HX.out]; simp [zeroM]⟩
     clear h1 h2 hx0 hxu HM HX HBad HGood
     go_upto_region 20 with (fail)
     have HN13 : Hd (w.heap.size ≤ w7.heap.size) := ⟨HT7.out.below.size⟩
     have hk13 := Bk.new_ w7 66 #[.int .i64 0, .int .i64 0, .int .i64 0, .int .i64 0]
     generalize w7.heap.size = g13 at HN13 hk13 ⊢
     refine wp_gen (fun W => Te b0 w.heap.size w.heap.size g2 g4 w W #[.bool neg, .slice (some ad) fs.length c] t TA tc TB td ∧ Bk W g13 66 #[.int .i64 m.x0, .int .i64 m.x1, .int .i64 m.x2, .int .i64 m.x3]) ⟨HT7.out.al _, by rw [HMZ.out]; exact hk13⟩ ?_
    case' pos =>
     have e3 : ((N.length : Int) == 1) = true := by rw [h2]; rfl
     obtain ⟨na, y, rfl, _, hx, hc⟩ := HRN.out.get (show 0 < N.length by omega)
     obtain rfl : y = x := by rw [← hx0, ← hx.out]
     rw [show na.add 0 = na by unfold Addr.add; simp] at hc
     have hn0 : (0 : Int) < N.length := by omega
     have hn1 : 0 < N.length := by omega
     by_cases h40 : 40 < y
     ·have HT : Hd (E = (80, t)) := ⟨HBad.out (by unfold expBad; rw [decide_eq_true h2, hx0, decide_eq_true h40]; simp)⟩
      clear h1 h2 HErr HE HGood HBad
      go_wp2_with fail
      refine bodyPost_ret (res_term2 rfl _ _ g2 _ rfl (HT7.out.done HB0.out).1 rfl) rfl ?_
      rw [HT.out]
      exact ⟨TA, tc, TB, td, rfl, (HT7.out.done HB0.out).2⟩
     have HG := aa (HGood.out (by unfold expBad; rw [decide_eq_false h1, decide_eq_true h2, hx0, decide_eq_false h40]; simp))
     clear h1 h2 hx0 HBad HGood hx
     go_upto_region 18 with (fail)
     refine wp_gen (fun W => Te b0 w.heap.size w.heap.size g2 g4 w W #[.bool neg, .slice (some ad) fs.length c] t TA tc TB td ∧ Bk W w7.heap.size 66 #[.int .i64 0, .int .i64 0, .int .i64 0, .int .i64 0] ∧ W.cell? ⟨gf, 0, none⟩ = some (.int .i64 fv) ∧ W.cell? na = some (.int .u64 y)) ⟨HT7.out.al _, Bk.new_ _ _ _, cell_up k0 ((ag _ _).alloc (ae _) _), cell_up hc ((ag _ _).alloc (ae _) _)⟩ ?_
     intro W18 h18
     have HN13 : Hd (gf ≠ w7.heap.size ∧ na.block ≠ w7.heap.size ∧ w.heap.size ≤ w7.heap.size) := ⟨Nat.ne_of_lt HK7.out.lt, Nat.ne_of_lt (by assumption), HT7.out.below.size⟩
     generalize w7.heap.size = g13 at h18 HN13 ⊢
     have HT18 := aa h18.out.1
     have HK18 := aa h18.out.2.1
     have k0 := h18.out.2.2.1
     have hc := h18.out.2.2.2
     obtain ⟨z0, z1, z2, z3⟩ := HK18.out.four
     have fzm := fun i => HK18.out.froz i
     have wy : IntKind.i64.wrap y = y := by rw [IntKind.wrap_i64]; omega
     clear h18 HT7 HK7 k1 k2 t0 t1 t2 t3 t4 t5 t6 r0 r1 r2 r3 r4 r5 r6 fzr fzt
     obtain ⟨k, rfl⟩ : ∃ k : Nat, fv = k := ⟨fv.toNat, by omega⟩
     have hk4 : k < 4 := by omega
     have i4 : (k : Int) < 4 := by omega
     obtain ⟨u, hcu⟩ : ∃ u, W18.cell? ⟨g13, k, none⟩ = some (.int .i64 u) := by
      rcases (show k = 0 ∨ k = 1 ∨ k = 2 ∨ k = 3 by omega) with rfl | rfl | rfl | rfl
      ·exact ⟨_, z0⟩
      ·exact ⟨_, z1⟩
      ·exact ⟨_, z2⟩
      ·exact ⟨_, z3⟩
     have HMK := aa (unit_set (y := y) (m := m) hk4 HK18.out HM.out)
     go_wp2_with fail
     go_region_held3 (fun w' => w'.cell? ⟨gf, 0, none⟩ = some (.int .i64 k) ∧ w'.cell? na = some (.int .u64 y))
      (first
       | exact ⟨k0, hc⟩
       | exact ⟨(far1 rfl HN13.out.1.symm).trans k0, (far1 rfl HN13.out.2.1.symm).trans hc⟩)
      (fail)
     have HT19 := aa ((HT18.out.far HB0.out HK18.out HN13.out.2.2 k (.int .i64 y)).dn 1)
     go_upto_region 20 with (fail)
     refine wp_gen (fun W => Te b0 w.heap.size w.heap.size g2 g4 w W #[.bool neg, .slice (some ad) fs.length c] t TA tc TB td ∧ Bk W g13 66 #[.int .i64 m.x0, .int .i64 m.x1, .int .i64 m.x2, .int .i64 m.x3]) ⟨HT19.out, HMK.out.dn 1⟩ ?_
    all_goals
     intro W20 h20
     have HT20 := aa h20.out.1
     have HK20 := aa h20.out.2
     have CM := aa (rmon_Mul t.m m W20)
     obtain ⟨⟨em, M⟩, hM⟩ : ∃ X, monMul t.m m = X := ⟨_, rfl⟩
     rw [hM] at CM HG
     dsimp only [MonD.v] at CM HG
     obtain ⟨z0, z1, z2, z3⟩ := HK20.out.four
     obtain ⟨⟨t0, t1, t2⟩, t3, t4, t5, t6⟩ := HT20.out.kt.seven
     clear hM h20
     go_wp2_with fail
     refine CM.out.mono ?_
     rintro e w21 ⟨rfl, hb⟩
     have HT21 := aa (HT20.out.up hb)
     clear hb CM HT20 HK20 z0 z1 z2 z3 t0 t1 t2 t3 t4 t5 t6
     go_upto_region 21 with (fail)
     refine wp_gen (fun W => Te b0 w.heap.size w.heap.size g2 g4 w W #[.bool neg, .slice (some ad) fs.length c] t TA tc TB td ∧ Bk W w21.heap.size 66 #[.int .i64 M.x0, .int .i64 M.x1, .int .i64 M.x2, .int .i64 M.x3]) ⟨HT21.out.al _, Bk.new_ _ _ _⟩ ?_
     intro W22 h22
     generalize w21.heap.size = g14 at h22 ⊢
     have HT22 := aa h22.out.1
     have HK22 := aa h22.out.2
     clear h22 HT21
     obtain ⟨⟨t0, t1, t2⟩, t3, t4, t5, t6⟩ := HT22.out.kt.seven
     obtain ⟨⟨r0, r1, r2⟩, r3, r4, r5, r6⟩ := HT22.out.kr.seven
     have fzr := fun i => HT22.out.kr.froz i
     have fzt := fun i => HT22.out.kt.froz i
     obtain ⟨z0, z1, z2, z3⟩ := HK22.out.four
     by_cases hz : em = 0
     ·have e4 : (em != 0) = false := by rw [hz]; rfl
      have HV2 := aa (HG.out.trans (if_neg (by simpa using hz)))
      clear hz HG HErr HE
      go_wp2_with fail
      go_roundw
      case measure => first | (simp [intOf]; done) | (simp [intOf]; omega)
      case rel => exact ⟨i + 1, ⟨t.c, M⟩, TA, tc, TB, td, by go_num, by omega, ⟨HT22.out.setM HB0.out M⟩, HV2⟩
     ·have e4 : (em != 0) = true := by rw [bne_iff_ne]; exact hz
      have HT : Hd (E = (em, t)) := ⟨HErr.out _ _ hz (by rw [HG.out, if_pos hz])⟩
      clear hz HG HErr HE
      go_wp2_with fail
      refine bodyPost_ret (res_term2 rfl _ _ g2 _ rfl (HT22.out.done HB0.out).1 rfl) rfl ?_
      rw [HT.out]
      exact ⟨TA, tc, TB, td, rfl, (HT22.out.done HB0.out).2⟩
  ·obtain rfl : i = fs.length := by omega
   have HF0 : Hd (termF fs ⟨R, zeroM⟩ = (0, t)) := ⟨by rw [HQ.out, List.drop_eq_nil_of_le (ae _)]; rfl⟩
   cases neg
   ·have HX : Hd (E = (0, t)) := ⟨by rw [← HE.out, HF0.out]; simp⟩
    clear HE HErr HQ HF0
    go_wp2_with fail
    refine bodyPost_ret (res_term2 rfl _ _ g2 _ rfl (HT.out.done HB0.out).1 rfl) rfl ?_
    rw [HX.out]
    exact ⟨TA, tc, TB, td, rfl, (HT.out.done HB0.out).2⟩
   ·have HX : Hd (E = (0, ⟨negD t.c, t.m⟩)) := ⟨by rw [← HE.out, HF0.out]; simp⟩
    have CN := aa (rrat_Neg b0 _ t.c wr (ah HB0.out HT.out.below.size) HT.out.rt.rat)
    have HNS := aa (negD_short' HT.out.sh)
    obtain ⟨D, hD⟩ : ∃ D, negD t.c = D := ⟨_, rfl⟩
    rw [hD] at CN HX HNS
    clear HE HErr HQ HF0 hD
    go_wp2_with fail
    refine CN.out.mono ?_
    rintro e w5 ⟨x, rfl, hx, hb⟩
    have HT5 := aa (HT.out.up hb)
    have HX5 := aa hx
    obtain ⟨NA, nc, NB, nd, rfl, _, _, _, _⟩ := hx
    clear hb CN p0 p1 t0 t1 t2 t3 t4 t5 t6 r0 r1 r2 r3 r4 r5 r6 fzr fzt HT
    obtain ⟨⟨t0, t1, t2⟩, t3, t4, t5, t6⟩ := HT5.out.kt.seven
    have fzt := fun i => HT5.out.kt.froz i
    go_upto_region 26 with (fail)
    refine wp_gen (fun W => Te b0 w.heap.size w.heap.size g2 g4 w W #[.bool true, .slice A fs.length c] ⟨D, t.m⟩ NA nc NB nd) (HT5.out.setC HB0.out HX5.out HNS.out) ?_
    intro W6 HT6
    clear HT5 HX5 t0 t1 t2 t3 t4 t5 t6 fzt
    obtain ⟨⟨t0, t1, t2⟩, t3, t4, t5, t6⟩ := HT6.out.kt.seven
    obtain ⟨⟨r0, r1, r2⟩, r3, r4, r5, r6⟩ := HT6.out.kr.seven
    have fzr := fun i => HT6.out.kr.froz i
    go_wp2_with fail
    refine bodyPost_ret (res_term2 rfl _ _ g2 _ rfl (HT6.out.done HB0.out).1 rfl) rfl ?_
    rw [HX.out]
    exact ⟨NA, nc, NB, nd, rfl, (HT6.out.done HB0.out).2⟩
theorem varD_le (c : Int) : varD c ≤ 3 := by
 unfold varD
 split
 ·omega
 ·split
  ·omega
  ·split
   ·omega
   ·split <;> omega
theorem numberS_le {s : ByteArray} {k : Nat} (h : s.size ≤ maxLen) : (numberS s k).size ≤ maxLen := by
 unfold numberS
 rw [ByteArray.size_extract]
 omega
theorem nil_le : (⟨#[]⟩ : ByteArray).size ≤ maxLen := by unfold maxLen; show 0 ≤ _; omega
theorem factorD_ok {s : ByteArray} (h : s.size ≤ maxLen) (k : Nat) (bad : Bool) : FacOk (factorD s k bad).1 := by
 unfold factorD
 dsimp only
 have h1 : oneS.size ≤ maxLen := by unfold maxLen; show 1 ≤ _; omega
 split
 ·split
  ·exact ⟨varD_le _, numberS_le h, nil_le⟩
  ·exact ⟨varD_le _, h1, nil_le⟩
 ·split
  ·exact ⟨by show (-1 : Int) ≤ 3; omega, numberS_le h, numberS_le h⟩
  ·exact ⟨by show (-1 : Int) ≤ 3; omega, numberS_le h, nil_le⟩
theorem facsF_ok {s : ByteArray} (h : s.size ≤ maxLen) : ∀ (n : Nat) (fs : List FacD) (k : Nat) (bad : Bool), (∀ f ∈ fs, FacOk f) → ∀ f ∈ (facsF s n fs k bad).1, FacOk f
 | 0, _, _, _, hf => hf
 | n + 1, fs, k, bad, hf => by
   unfold facsF
   split
   ·exact hf
   ·split
    ·refine facsF_ok h n _ _ _ fun f hm => ?_
     rcases List.mem_append.1 hm with hm | hm
     ·exact hf f hm
     ·simp only [List.mem_singleton] at hm
      subst hm
      exact factorD_ok h _ _
    ·exact hf
theorem productD_ok {s : ByteArray} (h : s.size ≤ maxLen) (k : Nat) (bad neg : Bool) : ∀ f ∈ (productD s k bad neg).1.fs, FacOk f := by
 unfold productD
 exact facsF_ok h _ _ _ _ fun f hm => by
  simp only [List.mem_singleton] at hm
  subst hm
  exact factorD_ok h _ _
theorem sumF_ok {s : ByteArray} (h : s.size ≤ maxLen) : ∀ (n : Nat) (l : List ProdD) (k : Nat) (bad : Bool), (∀ p ∈ l, ∀ f ∈ p.fs, FacOk f) → (∀ p ∈ (sumF s n l k bad).1, ∀ f ∈ p.fs, FacOk f) ∧ (sumF s n l k bad).1.length ≤ l.length + n
 | 0, _, _, _, hf => ⟨hf, ae _⟩
 | n + 1, l, k, bad, hf => by
   unfold sumF
   dsimp only
   have step : ∀ k neg, (∀ p ∈ l ++ [(productD s k bad neg).1], ∀ f ∈ p.fs, FacOk f) := fun k neg p hm => by
    rcases List.mem_append.1 hm with hm | hm
    ·exact hf p hm
    ·simp only [List.mem_singleton] at hm
     subst hm
     exact productD_ok h _ _ _
   split
   ·exact ⟨hf, by show l.length ≤ _; omega⟩
   ·split
    ·exact ⟨hf, by show l.length ≤ _; omega⟩
    ·split
     ·have := sumF_ok h n _ (productD s (eatK s (skipD s k) 43) bad false).2.1 (productD s (eatK s (skipD s k) 43) bad false).2.2 (step (eatK s (skipD s k) 43) false)
      exact ⟨this.1, by have := this.2; rw [List.length_append, List.length_singleton] at this; omega⟩
     ·split
      ·have := sumF_ok h n _ (productD s (eatK s (eatK s (skipD s k) 43) 45) bad true).2.1 (productD s (eatK s (eatK s (skipD s k) 43) 45) bad true).2.2 (step (eatK s (eatK s (skipD s k) 43) 45) true)
       exact ⟨this.1, by have := this.2; rw [List.length_append, List.length_singleton] at this; omega⟩
      ·exact ⟨hf, by show l.length ≤ _; omega⟩
theorem sumD_ok {s : ByteArray} (h : s.size ≤ maxLen) : (∀ p ∈ (sumD s).1, ∀ f ∈ p.fs, FacOk f) ∧ (sumD s).1.length ≤ s.size + 2 := by
 unfold sumD
 dsimp only
 have := sumF_ok h (s.size + 1) [(productD s (eatK s 0 45) false (eatB s 0 45)).1] (productD s (eatK s 0 45) false (eatB s 0 45)).2.1 (productD s (eatK s 0 45) false (eatB s 0 45)).2.2 (fun p hm => by
  simp only [List.mem_singleton] at hm
  subst hm
  exact productD_ok h _ _ _)
 exact ⟨this.1, by have := this.2; rw [List.length_singleton] at this; omega⟩
def termsD : List ProdD → Int × List TermD
 | [] => (0, [])
 | p :: ps => if (termD p).1 ≠ 0 then ((termD p).1, []) else if (termsD ps).1 ≠ 0 then ((termsD ps).1, []) else (0, (termD p).2 :: (termsD ps).2)
def parseD (o : Int) (s : ByteArray) : Int × List TermD :=
 if o < 0 ∨ 2 < o then (1, []) else if (sumD s).2 = true ∨ 2000 < s.size then (100, []) else
 if (termsD (sumD s).1).1 ≠ 0 then ((termsD (sumD s).1).1, []) else polMake o (termsD (sumD s).1).2
theorem termsD_cons (p : ProdD) (ps : List ProdD) : termsD (p :: ps) = if (termD p).1 ≠ 0 then ((termD p).1, []) else if (termsD ps).1 ≠ 0 then ((termsD ps).1, []) else (0, (termD p).2 :: (termsD ps).2) := rfl
theorem termsD_step {p : ProdD} {ps : List ProdD} {acc : List TermD} (h : (termD p).1 = 0) : appD acc (termsD (p :: ps)) = appD (acc ++ [(termD p).2]) (termsD ps) := by
 rw [termsD_cons, if_neg (by simpa using h)]
 by_cases h2 : (termsD ps).1 = 0
 ·rw [if_neg (by simpa using h2)]
  unfold appD
  rw [if_neg (by simp), if_neg (by simpa using h2)]
  simp
 ·rw [if_pos (by simpa using h2)]
  unfold appD
  rw [if_pos (by simpa using h2), if_pos (by simpa using h2)]
theorem termsD_start (ps : List ProdD) : termsD ps = appD [] (termsD ps) := by
 unfold appD
 cases ps with
 | nil => rfl
 | cons p ps =>
   rw [termsD_cons]
   by_cases h : (termD p).1 = 0
   ·rw [if_neg (by simpa using h)]
    by_cases h2 : (termsD ps).1 = 0
    ·rw [if_neg (by simpa using h2)]; rfl
    ·rw [if_pos (by simpa using h2), if_pos (by simpa using h2)]
   ·rw [if_pos (by simpa using h), if_pos (by simpa using h)]
theorem termsD_bad {p : ProdD} {ps : List ProdD} {acc : List TermD} (h : (termD p).1 ≠ 0) : appD acc (termsD (p :: ps)) = ((termD p).1, []) := by
 rw [termsD_cons, if_pos h]
 unfold appD
 rw [if_pos h]
theorem termF_short : ∀ {fs : List FacD} {t : TermD}, t.c.short → (termF fs t).2.c.short
 | [], _, h => h
 | f :: fs, t, h => by
   unfold termF
   split
   ·split
    ·exact h
    ·split
     ·exact h
     ·exact termF_short (mulD_short _ _)
   ·split
    ·exact h
    ·split
     ·exact h
     ·exact termF_short h
theorem termD_short (p : ProdD) : (termD p).2.c.short := by
 have h := termF_short (fs := p.fs) (t := ⟨ofD 1, zeroM⟩) (ofD_short 1 (by decide))
 unfold termD
 dsimp only
 split
 ·exact h
 ·split
  ·exact negD_short' h
  ·exact h
theorem ref_Parse (b0 : Nat) (o : Int) (s : ByteArray) (w : World) (hb0 : b0 ≤ w.heap.size) (hs : s.size ≤ 1000000) :
    Calls Tryz.prog 160 #[.int .i64 o, .string s] w fun e w' => ∃ A c, e = .returned (.tuple #[.slice A (parseD o s).2.length c, .int .i64 (parseD o s).1]) ∧ (parseD o s).2.length ≤ c ∧ RPol w' b0 A (parseD o s).2 ∧ Below w.heap.size w w' := by
 obtain ⟨E, hE⟩ : ∃ E, parseD o s = E := ⟨_, rfl⟩
 rw [hE]
 have HE := aa hE
 clear hE
 unfold parseD at HE
 have HB0 := aa hb0
 have hsm : s.size ≤ maxLen := by unfold maxLen; omega
 have HOK := aa (sumD_ok hsm)
 clear hb0
 by_cases ho : o < 0
 ·have HT : Hd (E = (1, [])) := ⟨by rw [← HE.out, if_pos (.inl ho)]⟩
  clear HE
  go_enter Tryz.func160, Tryz.ntmps160
  go_wp2_with fail
  go_ret2
  rw [HT.out]
  exact ⟨none, 0, rfl, ae _, RPol.nil _ _ _, .refl _ _⟩
 by_cases ho2 : 2 < o
 ·have HT : Hd (E = (1, [])) := ⟨by rw [← HE.out, if_pos (.inr ho2)]⟩
  clear HE
  go_enter Tryz.func160, Tryz.ntmps160
  go_wp2_with fail
  go_ret2
  rw [HT.out]
  exact ⟨none, 0, rfl, ae _, RPol.nil _ _ _, .refl _ _⟩
 have HE1 := aa (HE.out.symm.trans (if_neg (by omega)))
 have CS := aa (text_sum s w.heap.size (w.alloc (.cells #[.string s, .int .i64 0, .bool false] 244)) (Bk.new_ _ _ _) hs)
 obtain ⟨⟨ps, bad⟩, hS⟩ : ∃ X, sumD s = X := ⟨_, rfl⟩
 rw [hS] at CS HE1 HOK
 dsimp only [tx] at CS HE1 HOK
 clear hS HE
 go_enter Tryz.func160, Tryz.ntmps160
 go_wp2_with fail
 refine CS.out.mono ?_
 rintro e w3 ⟨v, K, rfl, hop, hk, hg⟩
 have HB3 := aa (((ag w.heap.size w).alloc (ae _) (.cells #[.string s, .int .i64 0, .bool false] 244)).grown hg (by simp) (fun k e => by injection e with e; omega))
 have HOP := aa hop
 obtain ⟨q0, q1, q2⟩ := hk.three
 obtain ⟨VA, vc, rfl, hvc, hvm⟩ := hop.reads
 clear hop hk hg CS
 cases bad
 case true =>
  have HT : Hd (E = (100, [])) := ⟨by rw [HE1.out, if_pos (.inl rfl)]⟩
  clear HE1
  go_wp2_with fail
  go_ret2
  rw [HT.out]
  exact ⟨none, 0, rfl, ae _, RPol.nil _ _ _, HB3.out⟩
 by_cases h2 : 2000 < s.size
 ·have h3 : (2000 : Int) < s.size := by omega
  have HT : Hd (E = (100, [])) := ⟨by rw [HE1.out, if_pos (.inr h2)]⟩
  clear HE1 h2
  go_wp2_with fail
  go_ret2
  rw [HT.out]
  exact ⟨none, 0, rfl, ae _, RPol.nil _ _ _, HB3.out⟩
 have h3 : ¬ (2000 : Int) < s.size := by omega
 have HE2 := aa (HE1.out.trans (if_neg (by simp; omega)))
 have hpl : ps.length ≤ 2002 := by have := HOK.out.2; omega
 clear HE1 h2
 go_upto_region 8 with (fail)
 refine wp_gen (fun W => Below w3.heap.size w3 W ∧ OwnT W b0 w3.heap.size (.slice (some ⟨w3.heap.size, 0, none⟩) 0 0) []) ⟨(ag _ _).alloc (ae _) _, ownT_lit w3 b0 w3.heap.size (ae _)⟩ ?_
 intro W0 hW
 have HB0W := aa hW.out.1
 have HO0 := aa hW.out.2
 clear hW q0 q1 q2
 go_wp2_with fail
 go_loopw [8, 9] (fun v8 v9 wr => ∃ (i : Nat) (acc : List TermD), v9 = .int .i64 i ∧ i ≤ ps.length ∧ acc.length = i ∧ Hd (OwnT wr b0 w3.heap.size v8 acc) ∧ Hd (Below w3.heap.size w3 wr) ∧ Hd (termsD ps = appD acc (termsD (ps.drop i))) ∧ Hd (∀ t ∈ acc, t.c.short)) (fun _ v _ => ps.length - (intOf v).toNat)
 case atStart => exact ⟨0, [], rfl, by omega, rfl, HO0, HB0W, ⟨termsD_start ps⟩, ⟨fun t h => by cases h⟩⟩
 case round =>
  clear HO0 HB0W
  obtain ⟨i, acc, rfl, hi, hl, HO, HB, HQ, HS⟩ := hrel
  obtain ⟨Av, cv, rfl, hcv, _, hrv⟩ := HO.out.reads
  have HRV := aa hrv
  have HL := aa hl
  clear hrv hl
  by_cases hlt : i < ps.length
  ·have i1 : (i : Int) < ps.length := by omega
   have i0 : (0 : Int) ≤ i := by omega
   obtain ⟨p, hpi⟩ : ∃ p, ps[i]? = some p := ⟨_, ai hlt⟩
   have HFO := aa (HOK.out.1 p (List.mem_of_getElem? hpi))
   have hop := HOP.out.up HB.out
   obtain ⟨cs, hop1, hop2⟩ := hop
   obtain ⟨V, g0, g1, hof⟩ := hop2.get hpi
   obtain ⟨ad, eA, hab, hca⟩ := (Rd.of_own hop1).2 (by omega)
   subst eA
   have q0 := hca _ _ g0
   have q1 := hca _ _ g1
   rw [add_pos _ _ 1 (by omega)] at q1
   obtain ⟨FA, fc, rfl, hfc, hfm⟩ := hof.reads
   have HRF := aa (Rd.of_own hof)
   have HD : Hd (termsD ps = appD acc (termsD (p :: ps.drop (i + 1)))) := ⟨by
    have e1 : ps[i] = p := by rw [ai hlt] at hpi; injection hpi
    rw [HQ.out, List.drop_eq_getElem_cons hlt, e1]⟩
   have CT := aa (ref_term b0 p FA fc wr (ah HB0.out (ah HB3.out.size HB.out.size)) HRF.out HFO.out (by omega))
   have HN := aa (fun h => HD.out.trans (termsD_step (ps := ps.drop (i + 1)) (acc := acc) (p := p) h))
   have HE3 := aa (fun h => HD.out.trans (termsD_bad (ps := ps.drop (i + 1)) (acc := acc) (p := p) h))
   have HTS := aa (termD_short p)
   obtain ⟨⟨et, t⟩, hT⟩ : ∃ X, termD p = X := ⟨_, rfl⟩
   rw [hT] at CT HN HE3 HTS
   dsimp only [TermD.v] at CT
   dsimp only at HN HE3 HTS
   clear hop1 hop2 hca g0 g1 hof hpi HD hT HQ
   go_wp2_with fail
   refine CT.out.mono ?_
   rintro e w5 ⟨XA, xc, XB, xd, rfl, hr, hb⟩
   have HB5 := aa (goes HB.out hb)
   have HO5 := aa (HO.out.up hb)
   have HR5 := aa hr
   clear hb hr CT q0 q1 HRF HFO
   go_upto_region 12 with (fail)
   refine wp_gen (fun W => Below w3.heap.size w3 W ∧ OwnT W b0 w3.heap.size (.slice Av acc.length cv) acc ∧ Bk W w5.heap.size 68 (t.v XA xc XB xd) ∧ RTerm W b0 (.agg (t.v XA xc XB xd)) t) ⟨goes HB5.out ((ag _ _).alloc (ae _) _), HO5.out.up ((ag _ _).alloc (ae _) _), Bk.new_ _ _ _, HR5.out.up ((ag _ _).alloc (ae _) _)⟩ ?_
   intro W6 h6
   generalize w5.heap.size = g6 at h6 ⊢
   have HB6 := aa h6.out.1
   have HO6 := aa h6.out.2.1
   have HR6 := aa h6.out.2.2.2
   obtain ⟨⟨t0, t1, t2⟩, t3, t4, t5, t6⟩ := h6.out.2.2.1.seven
   clear h6 HB5 HO5 HR5
   by_cases hz : et = 0
   case neg =>
    have e1 : (et != 0) = true := by rw [bne_iff_ne]; exact hz
    have HT : Hd (E = (et, [])) := ⟨by rw [HE2.out, HE3.out hz, if_pos hz]⟩
    clear hz HE3 HN HE2
    go_wp2_with fail
    go_ret2
    rw [HT.out]
    exact ⟨none, 0, rfl, ae _, RPol.nil _ _ _, goes HB3.out HB6.out⟩
   have e1 : (et != 0) = false := by rw [hz]; rfl
   have HN2 := aa (HN.out hz)
   have HT1 := aa (rpol_one (t := t) HR6.out 68)
   have XL : Hd (acc.length + [t].length ≤ 1000000) := ⟨by have := HL.out; simp; omega⟩
   clear hz HE3 HN
   go_wp2_with (at_builtin; refine wpList_append_T (w0 := w3) (us := [t]) rfl _ _ 24 24 rfl Tryz.slTerms Tryz.slTerms rfl rfl rfl (HO6.out.up ((ag _ _).alloc (ae _) _)) HT1.out (ah HB0.out HB3.out.size) XL.out (HB6.out.alloc HB6.out.size _) (ae _) (HB6.out.alloc HB6.out.size _).size ?_)
   intro v' w10 AP
   have HAP := aa AP
   have hl2 : (acc ++ [t]).length = i + 1 := by rw [List.length_append, HL.out]; rfl
   have HSS : Hd (∀ s ∈ acc ++ [t], s.c.short) := ⟨fun s hs => by
    rcases List.mem_append.1 hs with h | h
    ·exact HS.out s h
    ·simp only [List.mem_singleton] at h; subst h; exact HTS.out⟩
   clear AP
   go_wp2_with fail
   go_roundw
   case measure => first | (simp [intOf]; done) | (simp [intOf]; omega)
   case rel => exact ⟨i + 1, _, by go_num, by omega, hl2, ⟨HAP.out.own⟩, ⟨HAP.out.below⟩, HN2, HSS⟩
  ·obtain rfl : i = ps.length := by omega
   have HT : Hd (E = polMake o acc) := ⟨by
    rw [HE2.out, HQ.out, List.drop_eq_nil_of_le (ae _)]
    unfold termsD appD
    simp⟩
   have CM := aa (rpol_Make b0 o Av cv acc wr (ah HB0.out (ah HB3.out.size HB.out.size)) HRV.out hcv (by have := HL.out; omega) ⟨by have := HL.out; omega, HS.out⟩)
   rw [← HT.out] at CM
   go_wp2_with fail
   refine CM.out.mono ?_
   rintro e w6 ⟨A6, c6, rfl, hc6, hr6, hb6⟩
   have HB6 := aa (goes HB3.out (goes HB.out hb6))
   have HR6 := aa hr6
   clear hb6 hr6
   go_wp2_with fail
   go_ret2
   exact ⟨A6, c6, rfl, hc6, HR6.out, HB6.out⟩
end Go.Proofs.YtgjkgkgieeoalaaGreat
namespace Go.Proofs.YtgjkgkgieeoalaaGreat
open Go.RowKit Go.Shelf
def cellsP (ps : List (Nat × Nat)) : List Value := ps.flatMap fun x => [.int .i64 x.1, .int .i64 x.2]
theorem cellsP_app (a b : List (Nat × Nat)) : cellsP (a ++ b) = cellsP a ++ cellsP b := by simp [cellsP]
theorem pairsU_len (N : Nat) : (pairsU N).length ≤ N * N := by
 induction N with
 | zero => simp [pairsU]
 | succ N ih =>
   show (pairsU N ++ _).length ≤ _
   rw [List.length_append, List.length_map, List.length_range, Nat.mul_succ, Nat.succ_mul]
   omega
theorem Tryz.infPair : (Tryz.prog.info? 23).map (fun i => (i.zero, i.size, i.bytes)) = some (some (.agg #[.int .i64 0, .int .i64 0]), 2, 16) := by kernel_rfl
theorem Tryz.slPairs : Tryz.prog.underlying 30 = some (.slice 23) := by kernel_rfl
theorem res_pairs {fn : Func} {p : Tmp} (h : fn.results = #[.cell p 30]) (tmps : Array Value) (w : World) (g : Nat) (v : Value) (hp : tmps.getD p undef = .pointer (some ⟨g, 0, none⟩)) (hc : w.cell? ⟨g, 0, none⟩ = some v) :
    (results fn tmps).run Tryz.prog w = .ok v w := by
 have hp' : tmps[p]?.getD undef = .pointer (some ⟨g, 0, none⟩) := by simpa using hp
 have hu := Tryz.slPairs
 simp [results, h, hp', asAddr, loadVar, go_sem, hu, hc]
theorem cell_two_new (W : World) (a b : Value) (t : TypeId) : ∀ j u, [a, b][j]? = some u → (W.alloc (.cells #[a, b] t)).cell? ((⟨W.heap.size, 0, none⟩ : Addr).add j) = some u := fun j u hu => by
 obtain ⟨ad, e, _, hc⟩ := (Rd.new_ W #[a, b] t 1 2 rfl).2 (by omega)
 injection e with e
 subst e
 exact hc j u hu
theorem bk_ownFrom {B Bx : Nat} {t : TypeId} {cs : Array Value} : OwnFrom B (fun (_ : Unit) W => Bk W Bx t cs) := fun _ X Y row h hg hr => h.grown hg fun e => by
 obtain ⟨_, o, ho, hcells⟩ := hr Bx e.symm
 have h2 : X.heap[Bx]? = some (.cells cs t (0, 0)) := h
 rw [h2] at ho
 cases ho
 cases hcells
attribute [local go_sem] Oper.semAt_some
theorem all_in (F : Fence) (n : Nat) (h3 : F.fn 36) (h4 : F.fn 103) (h5 : F.fn 182) (hro : F.round = none) (hn : 3 ≤ n) (k : Int) (N : Nat) (hN : max 0 (min k 64) = (N : Int)) (w : World) :
    CallsIn F n Tryz.prog 36 #[.int .i64 k] w fun e W' => ∃ v, e = .returned v ∧ W'.ownsRow w.heap.size 23 2 v (pairsU N).length (cellsP (pairsU N)) ∧ Below w.heap.size w W' := by
 have h1 : 1 ≤ n := by omega
 have hN64 : N ≤ 64 := by omega
 obtain ⟨i0, hi, hz0, hz1, hz2⟩ := info_parts Tryz.infPair
 have hlen := pairsU_len N
 have h64 : N * N ≤ 64 * 64 := Nat.mul_le_mul hN64 hN64
 refine callsIn_of_wp_marks Tryz.func36 rfl h3 ?_ hro
 simp only [Tryz.ntmps36, List.size_toArray, List.length_cons, List.length_nil, Nat.reduceAdd, Nat.reduceSub, Array.replicate_succ, Array.replicate_zero, List.push_toArray, List.append_toArray, List.nil_append, List.cons_append]
 gi_wp2_with (gi_at_call 103; refine (pairs_in F (n - 1) h4 hro _ _).mono ?_; rintro e w' ⟨rfl, rfl⟩)
 have bL := (Boxed.new w 30 (.slice none 0 0)).alloc (.cells #[.int .i64 N] 3)
 have bN := Boxed.new (w.alloc (.cells #[.slice none 0 0] 30)) 3 (.int .i64 N)
 rw [World.size_alloc] at bN
 have hB0 : Below w.heap.size w ((w.alloc (.cells #[.slice none 0 0] 30)).alloc (.cells #[.int .i64 N] 3)) := ((ag _ w).alloc (ae _) _).alloc (by simp) _
 have hsz : ((w.alloc (.cells #[.slice none 0 0] 30)).alloc (.cells #[.int .i64 N] 3)).heap.size = w.heap.size + 2 := by simp
 obtain ⟨W0, hW0⟩ : ∃ W0, (w.alloc (.cells #[.slice none 0 0] 30)).alloc (.cells #[.int .i64 N] 3) = W0 := ⟨_, rfl⟩
 rw [hW0] at bL bN hB0 hsz ⊢
 clear hW0
 refine wpIn_rangeFunc_ownH hro h1 (gf := 182) (lb := #[.pointer (some ⟨w.heap.size + 1, 0, none⟩)]) rfl h5 (enters_of Tryz.func182 (by kernel_rfl) rfl)
  (pairs_stops F (n - 1) h5 hro (by omega) (w.heap.size + 1) w.heap.size N hN64 W0 (by omega) (by omega) bN.cell) belowK_t (belowK_b (by omega)) (ag _ _) (fun _ => rfl)
  (fun pre W => (∃ v, Boxed W w.heap.size 30 v ∧ W.ownsRow w.heap.size 23 2 v pre.length (cellsP pre) ∧ True) ∧ Below w.heap.size w W)
  (fun _ _ _ => False)
  (OwnFrom.and (Own.from (holdsRow_own w.heap.size w.heap.size 30 23 2 (fun pre => pre.length) cellsP (fun _ _ => True)) _) (ownFrom_below (ae _) (by omega)))
  (fun _ _ _ _ _ hs _ _ => hs)
  ⟨⟨_, bL, World.ownsRow_nil _ _ _ _, trivial⟩, hB0⟩
  (fun x a' W => ∃ Bx, w.heap.size < Bx ∧ Bk W Bx 23 #[.int .i64 x.1, .int .i64 x.2] ∧ a' = { tmps := #[.int .i64 k, undef, .pointer (some ⟨w.heap.size, 0, none⟩), .pointer (some ⟨Bx, 0, none⟩), .int .i64 k, .int .i64 (min k 64), .int .i64 N, .func (.func 182) #[] #[.pointer (some ⟨w.heap.size + 1, 0, none⟩)], .agg #[.int .i64 x.1, .int .i64 x.2], undef, undef, undef, undef, undef], defers := [] })
  (fun x a' _ X Y row hs hg hr => by obtain ⟨Bx, h1, h2, h3⟩ := hs; exact ⟨Bx, h1, bk_ownFrom () X Y row h2 hg hr, h3⟩)
  ?assign ?body ?done ?stop
 case assign =>
  rintro l pre x W K ⟨⟨v, hv, hrow, _⟩, hB⟩ hK
  dsimp only [encP]
  gi_wp2
  exact hK _ _ ((KeepsOthers.alloc _ _).from _) ((ag _ W).alloc hB.size _) ⟨⟨v, hv.alloc _, hrow.alloc _, trivial⟩, hB.alloc hB.size _⟩ ⟨W.heap.size, hv.lt, Bk.new_ W 23 _, rfl⟩
 case body =>
  rintro l pre x a' W hl ⟨r, hr⟩ ⟨⟨v, hv, hrow, _⟩, hB⟩ ⟨Bx, hBx, bX, rfl⟩ hlt
  have hc := hv.cell
  obtain ⟨x0, x1⟩ := bX.two'
  gi_wp2_with (gi_at_builtin; refine wpListIn_append_own _ rfl _ _ 30 rfl w.heap.size 23 i0 _ 2 16 Tryz.slPairs hi hz0 hz1 hz2 rfl (by decide) _ _ _ rfl (hrow.alloc _) ⟨W.heap.size, 0, none⟩ 1 1 [.int .i64 x.1, .int .i64 x.2] rfl rfl (cell_two_new _ _ _ _) (by simp [Value.oneCell']) (by unfold maxLen; omega) (by omega) (by have := hB.size; simp; omega) ?_; intro v' w1 hown' hgrow _; obtain ⟨g', cap', rfl⟩ := ownsRow_succ hown'; obtain ⟨hv1, hv2, hr2, hk2, hb2⟩ := hv.appended (by decide) hrow hB.size (ae _) hown' hgrow; have hc1 := hv1.cell; have hf1 := hv1.frozen)
  exact ⟨hk2.from _, hb2, ⟨_, hv2, by rw [cellsP_app]; simpa [cellsP] using hr2, trivial⟩, hB.trans hb2⟩
 case done =>
  rintro D ys W hD rfl ⟨⟨v, hv, hrow, _⟩, hB⟩ hK
  have hc := hv.cell
  have hf := hv.frozen
  have hf := hv.frozen
  have hnr := hv.not_row (by decide) hrow
  have hK' := (KeepsOthers.setCell W ⟨w.heap.size, 0, none⟩ v).same D _ hK rfl
  have hrow' := hrow.kept (grownBy_setCell' W w.heap.size v) (.inr hnr.symm)
  have hb := (hv.set v).cell
  have hres := (belowK_b (w := w) (ae _) _ D _ (Obj.deferred none) (by omega) hK' rfl rfl)
  have hbb : ((W.setCell ⟨w.heap.size, 0, none⟩ v).putObj D (.deferred none)).cell? ⟨w.heap.size, 0, none⟩ = some v := ((hv.set v).kept (grownBy_putObj' _ D _) (by simp; omega)).cell
  have hBB := (hB.setCell (p := ⟨w.heap.size, 0, none⟩) (ae _) v).trans hres
  have hown := ownsRow_putObj hrow' (Obj.deferred none) hK' rfl
  rcases hrow.2 with ⟨e, -⟩ | ⟨g, cap, cur, e, hg, ho, hr'⟩
  all_goals
   subst e
   gi_wp2
   refine ⟨by simp, .inl ⟨_, _, rfl, run_takeDeferred hK', ?_⟩⟩
   exact ⟨_, res_pairs rfl _ _ _ _ rfl hbb, _, rfl, hown, hBB⟩
 case stop =>
  rintro D c pre W _ _ h _
  exact h.elim
end Go.Proofs.YtgjkgkgieeoalaaGreat
