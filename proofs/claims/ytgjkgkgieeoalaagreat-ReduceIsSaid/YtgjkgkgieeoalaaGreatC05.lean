/- Parts of the proof, joined: each theorem says what it shows. -/
import Derived.Test.YtgjkgkgieeoalaaGreatC04
import Derived.Test.YtgjkgkgieeoalaaGreatC01
import Derived.Laws.Externs
set_option linter.unusedVariables false
set_option linter.unusedSimpArgs false
set_option maxHeartbeats 24000000
set_option maxRecDepth 100000
namespace Go.Proofs.YtgjkgkgieeoalaaGreat
open Go.RowKit
structure Mu (S g1 g2 g3 g4 : Nat) (w0 w : World) (a b m : MonD) : Prop where
 bo : Bo2 S g1 g2 w0 w 66 66 a.v b.v
 s3 : S ≤ g3
 s4 : S ≤ g4
 n1 : g4 ≠ g1
 n2 : g4 ≠ g2
 n3 : g4 ≠ g3
 k3 : Bk w g3 66 zeroM.v
 k4 : Bk w g4 66 m.v
section
variable {S g1 g2 g3 g4 : Nat} {w0 w w' : World} {a b m : MonD}
theorem Mu.dn (h : Mu S g1 g2 g3 g4 w0 w a b m) (n : Nat) : Mu S g1 g2 g3 g4 w0 (w.drewN n) a b m := ⟨h.bo.dn n, h.s3, h.s4, h.n1, h.n2, h.n3, h.k3, h.k4⟩
theorem part_set {z : MonD} {g i : Nat} {s : Int} {t : TypeId} (hi : i < 4) (h : Bk w g t (part z i).v) (hs : z.l.getD i 0 = s) : Bk (w.setCell ⟨g, i, none⟩ (.int .i64 s)) g t (part z (i + 1)).v := by
 have := h.set_ i (.int .i64 s)
 subst hs
 rcases (show i = 0 ∨ i = 1 ∨ i = 2 ∨ i = 3 by omega) with rfl | rfl | rfl | rfl <;> exact this
theorem Mu.set {z : MonD} {i : Nat} {s : Int} (h : Mu S g1 g2 g3 g4 w0 w a b (part z i)) (hi : i < 4) (hs : z.l.getD i 0 = s) : Mu S g1 g2 g3 g4 w0 (w.setCell ⟨g4, i, none⟩ (.int .i64 s)) a b (part z (i + 1)) :=
 ⟨⟨h.bo.below.setCell h.s4 _, h.bo.s1, h.bo.s2, h.bo.n12, h.bo.k1.far h.n1.symm _, h.bo.k2.far h.n2.symm _⟩, h.s3, h.s4, h.n1, h.n2, h.n3, h.k3.far h.n3.symm _, part_set hi h.k4 hs⟩
theorem Bk.set4' (h : Bk w g4 66 m.v) (v0 v1 v2 v3 : Value) : Bk ((((w.setCell ⟨g4, 0, none⟩ v0).setCell ⟨g4, 1, none⟩ v1).setCell ⟨g4, 2, none⟩ v2).setCell ⟨g4, 3, none⟩ v3) g4 66 #[v0, v1, v2, v3] := h.set4 _ _ _ _
theorem Below.set4 (h : Below S w0 w) (hg : S ≤ g4) (v0 v1 v2 v3 : Value) : Below S w0 ((((w.setCell ⟨g4, 0, none⟩ v0).setCell ⟨g4, 1, none⟩ v1).setCell ⟨g4, 2, none⟩ v2).setCell ⟨g4, 3, none⟩ v3) :=
 (((h.setCell hg _).setCell hg _).setCell hg _).setCell hg _
end
theorem addM_at {a b : MonD} {i : Nat} {x y : Int} (hi : i < 4) (hx : a.l.getD i 0 = x) (hy : b.l.getD i 0 = y) : (addM a b).l.getD i 0 = x + y := by
 subst hx hy
 rcases (show i = 0 ∨ i = 1 ∨ i = 2 ∨ i = 3 by omega) with rfl | rfl | rfl | rfl <;> rfl
theorem rmon_Mul (a b : MonD) (w : World) :
    Calls Tryz.prog 201 #[.agg a.v, .agg b.v] w fun e w' => e = .returned (.tuple #[.agg (monMul a b).2.v, .int .i64 (monMul a b).1]) ∧ Below w.heap.size w w' := by
 obtain ⟨E, hE⟩ : ∃ E, monMul a b = E := ⟨_, rfl⟩
 rw [hE]
 have HEQ := Hd.mk hE
 clear hE
 go_enter Tryz.func201, Tryz.ntmps201
 go_upto_region 1 with (fail)
 refine wp_gen (fun W => Bo2 w.heap.size w.heap.size (w.heap.size + 1) w W 66 66 a.v b.v ∧ Bk W (w.heap.size + 1 + 1) 66 zeroM.v) ⟨(Bo2.mk2 w _ _ _ _).up ((Below.refl _ _).alloc (Nat.le_refl _) _), by
  have := Bk.new_ ((w.alloc (Obj.cells a.v 66)).alloc (Obj.cells b.v 66)) 66 zeroM.v
  simpa [MonD.v, zeroM] using this⟩ ?_
 intro W hW
 have BX := Hd.mk hW.out.1
 have K3 := Hd.mk hW.out.2
 have N3 : Hd (w.heap.size ≤ w.heap.size + 1 + 1) := ⟨by omega⟩
 clear hW
 generalize w.heap.size + 1 + 1 = g3 at K3 N3 ⊢
 generalize w.heap.size + 1 = g2 at BX ⊢
 obtain ⟨p0, p1, p2, p3⟩ := BX.out.k1.four
 obtain ⟨r0, r1, r2, r3⟩ := K3.out.four
 have fz := fun i => K3.out.froz i
 have CA := Hd.mk (rmon_May a W)
 cases hma : monMay a
 ·rw [hma] at CA
  have HE : Hd (E = (1, zeroM)) := ⟨by rw [← HEQ.out]; unfold monMul; rw [hma]; rfl⟩
  clear hma
  go_wp2_with fail
  refine CA.out.mono ?_
  rintro e w2 ⟨rfl, hb⟩
  have BX2 := Hd.mk (BX.out.up hb)
  have K32 := Hd.mk (K3.out.up hb)
  obtain ⟨r0, r1, r2, r3⟩ := K32.out.four
  have fz := fun i => K32.out.froz i
  clear hb
  go_wp2_with fail
  refine bodyPost_ret (res_mono2 rfl _ _ g3 _ rfl (K32.out.set4' _ _ _ _) rfl) rfl ?_
  rw [HE.out]
  exact ⟨rfl, Below.set4 BX2.out.below N3.out _ _ _ _⟩
 rw [hma] at CA
 have CB := Hd.mk (rmon_May b)
 cases hmb : monMay b
 ·rw [hmb] at CB
  have HE : Hd (E = (1, zeroM)) := ⟨by rw [← HEQ.out]; unfold monMul; rw [hma, hmb]; rfl⟩
  clear hma hmb
  go_wp2_with fail
  refine CA.out.mono ?_
  rintro e w2 ⟨rfl, hb⟩
  have BX2 := Hd.mk (BX.out.up hb)
  have K32 := Hd.mk (K3.out.up hb)
  obtain ⟨q0, q1, q2, q3⟩ := BX2.out.k2.four
  clear hb
  go_wp2_with fail
  refine (CB.out _).mono ?_
  rintro e w3 ⟨rfl, hb⟩
  have BX3 := Hd.mk (BX2.out.up hb)
  have K33 := Hd.mk (K32.out.up hb)
  obtain ⟨r0, r1, r2, r3⟩ := K33.out.four
  have fz := fun i => K33.out.froz i
  clear hb
  go_wp2_with fail
  refine bodyPost_ret (res_mono2 rfl _ _ g3 _ rfl (K33.out.set4' _ _ _ _) rfl) rfl ?_
  rw [HE.out]
  exact ⟨rfl, Below.set4 BX3.out.below N3.out _ _ _ _⟩
 rw [hmb] at CB
 have HE : Hd (E = if monMay (addM a b) = false then (80, zeroM) else (0, addM a b)) := ⟨by rw [← HEQ.out]; unfold monMul; rw [hma, hmb]; rfl⟩
 have HAB := Hd.mk (fun {i : Nat} {x y : Int} => addM_at (a := a) (b := b) (i := i) (x := x) (y := y))
 have CM := Hd.mk (rmon_May (addM a b))
 have HM := Hd.mk (And.intro hma hmb)
 generalize addM a b = z at HE HAB CM
 clear hma hmb
 go_wp2_with fail
 refine CA.out.mono ?_
 rintro e w2 ⟨rfl, hb⟩
 have BX2 := Hd.mk (BX.out.up hb)
 have K32 := Hd.mk (K3.out.up hb)
 obtain ⟨q0, q1, q2, q3⟩ := BX2.out.k2.four
 clear hb p0 p1 p2 p3 CA r0 r1 r2 r3 fz
 go_wp2_with fail
 refine (CB.out _).mono ?_
 rintro e w3 ⟨rfl, hb⟩
 have BX3 := Hd.mk (BX2.out.up hb)
 have K33 := Hd.mk (K32.out.up hb)
 clear hb q0 q1 q2 q3 BX BX2 CB K3 K32
 go_upto_region 4 with (fail)
 refine wp_gen (fun W => Mu w.heap.size w.heap.size g2 g3 w3.heap.size w W a b (part z 0)) ⟨BX3.out.up ((Below.refl _ _).alloc (Nat.le_refl _) _), N3.out, BX3.out.below.size, Nat.ne_of_gt BX3.out.k1.lt, Nat.ne_of_gt BX3.out.k2.lt, Nat.ne_of_gt K33.out.lt, K33.out.al _, Bk.new_ _ _ _⟩ ?_
 intro W4 MU
 have N4 : Hd (w.heap.size ≤ w3.heap.size) := ⟨MU.out.s4⟩
 generalize w3.heap.size = g4 at MU N4 ⊢
 clear BX3 K33
 go_wp2_with fail
 go_loopw [7] (fun v wr => ∃ i : Nat, v = .int .i64 i ∧ i ≤ 4 ∧ Hd (Mu w.heap.size w.heap.size g2 g3 g4 w wr a b (part z i))) (fun v _ => 4 - (intOf v).toNat)
 case atStart => exact ⟨0, rfl, by omega, MU⟩
 case round =>
  clear MU
  obtain ⟨i, rfl, hi, MU⟩ := hrel
  by_cases hlt : i < 4
  ·obtain ⟨x, HX, hcx⟩ := cellM MU.out.bo.k1 hlt
   obtain ⟨y, HY, hcy⟩ := cellM MU.out.bo.k2 hlt
   obtain ⟨u, HU, hcu⟩ := cellM MU.out.k4 hlt
   obtain ⟨x0, x1⟩ := mon_rng HM.out.1 hlt HX.out
   obtain ⟨y0, y1⟩ := mon_rng HM.out.2 hlt HY.out
   have HZ := Hd.mk (HAB.out hlt HX.out HY.out)
   have hw : IntKind.i64.wrap (x + y) = x + y := by rw [IntKind.wrap_i64]; omega
   have fz := MU.out.k4.froz i
   have HN1 := MU.out.n1
   have HN2 := MU.out.n2
   have HMU := Hd.mk (fun n => (MU.out.dn n).set hlt HZ.out)
   have i1 : (i : Int) < 4 := by omega
   have i3 : (0 : Int) ≤ i := by omega
   go_wp2_with fail
   go_region_held3 (fun w' => Hd (Below w.heap.size w w') ∧ w'.cell? ⟨w.heap.size, i, none⟩ = some (.int .i64 x) ∧ w'.cell? ⟨g2, i, none⟩ = some (.int .i64 y))
    (first
     | exact ⟨⟨MU.out.bo.below⟩, hcx, hcy⟩
     | exact ⟨⟨(MU.out.dn 1).bo.below⟩, hcx, hcy⟩
     | exact ⟨⟨(MU.out.dn 1).bo.below.setCell MU.out.s4 _⟩, (far1 rfl HN1).trans hcx, (far1 rfl HN2).trans hcy⟩)
    (fail)
   all_goals
    go_wp2_with fail
    go_roundw
    case measure => first | (simp [intOf]; done) | (simp [intOf]; omega)
    case rel => exact ⟨_, by go_num, by omega, ⟨HMU.out 1⟩⟩
  ·obtain rfl : i = 4 := by omega
   have MU : Hd (Mu w.heap.size w.heap.size g2 g3 g4 w wr a b z) := MU
   obtain ⟨q0, q1, q2, q3⟩ := MU.out.k4.four
   cases hz : monMay z
   ·rw [hz] at CM HE
    have HF : Hd (E = (80, zeroM)) := ⟨by rw [HE.out]; rfl⟩
    clear hz
    go_wp2_with fail
    refine (CM.out _).mono ?_
    rintro e w6 ⟨rfl, hb⟩
    have BB := Hd.mk (MU.out.bo.below.trans (hb.mono MU.out.bo.below.size))
    have K36 := Hd.mk (MU.out.k3.up hb)
    obtain ⟨r0, r1, r2, r3⟩ := K36.out.four
    have fz := fun i => K36.out.froz i
    clear hb
    go_wp2_with fail
    refine bodyPost_ret (res_mono2 rfl _ _ g3 _ rfl (K36.out.set4' _ _ _ _) rfl) rfl ?_
    rw [HF.out]
    exact ⟨rfl, Below.set4 BB.out N3.out _ _ _ _⟩
   ·rw [hz] at CM HE
    have HF : Hd (E = (0, z)) := ⟨by rw [HE.out]; rfl⟩
    clear hz
    go_wp2_with fail
    refine (CM.out _).mono ?_
    rintro e w6 ⟨rfl, hb⟩
    have BB := Hd.mk (MU.out.bo.below.trans (hb.mono MU.out.bo.below.size))
    have K36 := Hd.mk (MU.out.k3.up hb)
    obtain ⟨q0, q1, q2, q3⟩ := (MU.out.k4.up hb).four
    obtain ⟨r0, r1, r2, r3⟩ := K36.out.four
    have fz := fun i => K36.out.froz i
    clear hb
    go_wp2_with fail
    refine bodyPost_ret (res_mono2 rfl _ _ g3 _ rfl (K36.out.set4' _ _ _ _) rfl) rfl ?_
    rw [HF.out]
    exact ⟨rfl, Below.set4 BB.out N3.out _ _ _ _⟩
theorem limb_trim (A : Option Addr) (c : Nat) (l : List Int) (w : World) (h : RdI w .u64 A l) (hn : l.length ≤ c) (hb9 : l.length ≤ 2000000000) :
    Calls Tryz.prog 227 #[.slice A l.length c] w fun e w' => e = .returned (.slice A (trimL l).length c) ∧ w = w' := by
 go_enter Tryz.func227, Tryz.ntmps227
 go_wp2
 go_loop [0] (fun v => ∃ n : Nat, n ≤ l.length ∧ v = .slice A n c ∧ trimL (l.take n) = trimL l) (fun v => match v with | .slice _ n _ => n | _ => 0)
 case atStart => exact ⟨l.length, Nat.le_refl _, rfl, by rw [List.take_length]⟩
 case round =>
  obtain ⟨n, hnl, rfl, ht⟩ := hrel
  have HT := Hd.mk ht; clear ht
  cases n with
  | zero =>
    go_wp2
    go_ret
    exact ⟨by rw [← HT.out]; rfl, rfl⟩
  | succ n =>
    obtain ⟨ad, rfl, hb, hcell⟩ := h.at_ (i := n) (by omega)
    by_cases hz : l.getD n 0 = 0
    ·go_wp2
     ·go_round
      case rel => exact ⟨n, by omega, rfl, by rw [← HT.out, take_snoc (by omega), hz, trimL_snoc0]⟩
      case measure => simp
     ·simp_all
    ·go_wp2
     ·simp_all
     ·go_ret
      refine ⟨?_, rfl⟩
      rw [← HT.out, take_snoc (by omega), trimL_snoc _ _ hz]; simp; omega
theorem clone_u64 (A : Option Addr) (c : Nat) (l : List Int) (w : World) (h : RdI w .u64 A l) (hn : l.length ≤ c) (hb9 : l.length ≤ 2000000000) :
    Calls Tryz.prog 274 #[.slice A l.length c] w fun e w' => ∃ v, e = .returned v ∧ OwnI w' w.heap.size 112 .u64 v l ∧ Below w.heap.size w w' := by
 obtain ⟨i0, hi, hz0, hz1, hz2⟩ := info_split Tryz.infU64
 have hnil := fun (w : World) => Lib.run_eql_slice_nil (P := Tryz.prog) w 61 _ A l.length c 0 0 Tryz.slU64
 have h0 : l.length + 0 ≤ maxLen := by unfold maxLen; omega
 have H := Hd.mk h
 clear h
 cases A with
 | none =>
   have hl : l = [] := by
    cases l with
    | nil => rfl
    | cons x l => obtain ⟨ad, h, _⟩ := H.out.at_ (i := 0) (by simp); cases h
   subst hl
   clear hb9 h0 hn H hnil
   have hnil := fun (w : World) => Lib.run_eql_slice_nil (P := Tryz.prog) w 61 _ none 0 c 0 0 Tryz.slU64
   go_enter Tryz.func274, Tryz.ntmps274
   go_wp2
   go_ret
   exact ⟨_, rfl, OwnI.nil _ _ _ _, Below.refl _ _⟩
 | some ad =>
   have hown : (w.alloc (.cells #[] 112)).ownsRow w.heap.size 112 1 (.slice (some ⟨w.heap.size, 0, none⟩) 0 0) 0 [] :=
    World.ownsRow_lit w #[] 0 (Nat.le_refl _) (by unfold maxLen; omega) rfl
   have HO := Hd.mk hown
   clear hown
   go_enter Tryz.func274, Tryz.ntmps274
   go_wp2_with (at_builtin; refine wpList_append_rd _ rfl _ _ 61 rfl w.heap.size 112 i0 (.int .u64 0) 1 8 Tryz.slU64 hi hz0 hz1 hz2 rfl (by decide) _ _ _ rfl HO.out _ _ _ _ (ints .u64 l) rfl (Rd.up H.out ((Below.refl _ _).alloc (Nat.le_refl _) _)) (ints_one _ _) ?c1 ?c2 ?c3 ?_)
   case c1 => unfold maxLen; omega
   case c2 => omega
   case c3 => simp
   intro v' w' ho hg _
   go_wp2
   go_ret
   have ho2 : OwnI w' w.heap.size 112 .u64 v' l := by simpa [OwnI] using ho
   exact ⟨_, rfl, ho2, grown_below HO.out hg ((Below.refl _ _).alloc (Nat.le_refl _) _) (by simp)⟩
theorem RdI.trim {w : World} {k : IntKind} {A : Option Addr} {l : List Int} (h : RdI w k A l) : RdI w k A (trimL l) := by
 rw [trimL_take]; exact h.pre (trimL_len l)
theorem limb_Trim (A : Option Addr) (c : Nat) (l : List Int) (w : World) (h : RdI w .u64 A l) (hn : l.length ≤ c) (hb9 : l.length ≤ 1000000000) :
    Calls Tryz.prog 271 #[.slice A l.length c] w fun e w' => ∃ v, e = .returned v ∧ OwnI w' w.heap.size 112 .u64 v (trimL l) ∧ Below w.heap.size w w' := by
 have ht := trimL_len l
 go_enter Tryz.func271, Tryz.ntmps271
 go_wp2_with fail
 refine (limb_trim A c l w h hn (by omega)).mono ?_
 rintro e w' ⟨rfl, rfl⟩
 go_wp2_with fail
 refine (clone_u64 A c (trimL l) w h.trim (by omega) (by omega)).mono ?_
 rintro e w' ⟨v, rfl, ho, hb⟩
 have HO := Hd.mk ho
 have HB := Hd.mk hb
 clear ho hb
 go_wp2_with fail
 go_ret
 exact ⟨_, rfl, HO.out, HB.out⟩
def cmpN (a b : Nat) : Int := if a < b then -1 else if b < a then 1 else 0
theorem cmpN_lt {a b : Nat} (h : a < b) : cmpN a b = -1 := by simp [cmpN, h]
theorem cmpN_gt {a b : Nat} (h : b < a) : cmpN a b = 1 := by simp [cmpN, h]; omega
theorem cmpN_eq {a b : Nat} (h : a = b) : cmpN a b = 0 := by simp [cmpN, h]
theorem limb_Cmp (A B : Option Addr) (c d : Nat) (l m : List Int) (w : World) (h : RdI w .u64 A l) (hn : l.length ≤ c) (hb9 : l.length ≤ 1000000000)
    (h' : RdI w .u64 B m) (hn' : m.length ≤ d) (hb9' : m.length ≤ 1000000000) (hu : U64 l) (hu' : U64 m) :
    Calls Tryz.prog 272 #[.slice A l.length c, .slice B m.length d] w fun e w' => e = .returned (.int .i64 (cmpN (val l) (val m))) ∧ Dr w w' := by
 have t1 := trimL_len l
 have t2 := trimL_len m
 have e1 := Hd.mk (val_trim l)
 have e2 := Hd.mk (val_trim m)
 have r1 := Hd.mk h.trim
 have r2 := Hd.mk h'.trim
 have T1 := Hd.mk (trim_trimL l)
 have T2 := Hd.mk (trim_trimL m)
 have V1 : Hd (U64 (trimL l)) := ⟨by rw [trimL_take]; exact hu.take _⟩
 have V2 : Hd (U64 (trimL m)) := ⟨by rw [trimL_take]; exact hu'.take _⟩
 rw [← e1.out, ← e2.out]
 have C1 := Hd.mk (fun W h => limb_trim A c l W h hn (by omega))
 have C2 := Hd.mk (fun W h => limb_trim B d m W h hn' (by omega))
 have H := Hd.mk h
 have H' := Hd.mk h'
 clear h h' e1 e2 hu hu'
 generalize trimL l = x at *
 generalize trimL m = y at *
 go_enter Tryz.func272, Tryz.ntmps272
 go_wp2_with fail
 refine (C1.out w H.out).mono ?_
 rintro e w' ⟨rfl, rfl⟩
 go_wp2_with fail
 refine (C2.out w H'.out).mono ?_
 rintro e w' ⟨rfl, rfl⟩
 rcases Nat.lt_trichotomy x.length y.length with hl | hl | hl
 ·have hb : ((x.length : Int) != (y.length : Int)) = true := by rw [bne_iff_ne]; omega
  go_wp2
  go_ret
  exact ⟨retInt (cmpN_lt (val_lt_len V1.out V2.out T2.out hl)).symm, .refl _⟩
 ·have HL := Hd.mk hl
  have hb : ((x.length : Int) != (y.length : Int)) = false := by rw [bne_eq_false_iff_eq]; omega
  clear hl
  go_wp2
  go_loopw [5] (fun v wr => ∃ i : Int, -1 ≤ i ∧ i < x.length ∧ v = .int .i64 i ∧ Hd (x.drop (i + 1).toNat = y.drop (i + 1).toNat) ∧ Hd (Dr w wr)) (fun v _ => (intOf v + 1).toNat)
  case atStart => exact ⟨_, by omega, by omega, rfl, ⟨by rw [List.drop_eq_nil_of_le (by omega), List.drop_eq_nil_of_le (by have := HL.out; omega)]⟩, ⟨.refl _⟩⟩
  case round =>
   obtain ⟨i, hi1, hi2, rfl, hd, ⟨⟨nq, hw⟩⟩⟩ := hrel
   subst hw
   by_cases hi : 0 ≤ i
   ·obtain ⟨k, rfl⟩ := Int.eq_ofNat_of_zero_le hi
    obtain ⟨ad, a, hA, _, ha, hca⟩ := r1.out.get (i := k) (by omega)
    obtain ⟨bd, b, hB, _, hb2, hcb⟩ := r2.out.get (i := k) (by have := HL.out; omega)
    subst hA hB
    have hy : (k : Int) < y.length := by have := HL.out; omega
    have hk : k < x.length := by omega
    have hky : k < y.length := by omega
    go_wp2
    go_quiet (fail)
    go_wp2
    ·go_ret
     refine ⟨retInt (cmpN_lt (val_cmp_at V1.out V2.out HL.out hk ?_ ?_)).symm, by repeat (first | exact .refl _ | apply Dr.dn)⟩
     ·have := hd.out; simpa using this
     ·rw [ha.out, hb2.out]; assumption
    ·go_quiet (fail)
     go_wp2
     ·go_ret
      refine ⟨retInt (cmpN_gt (val_cmp_at V2.out V1.out HL.out.symm hky ?_ ?_)).symm, by repeat (first | exact .refl _ | apply Dr.dn)⟩
      ·have := hd.out; simpa using this.symm
      ·rw [ha.out, hb2.out]; assumption
     ·go_roundw
      case rel =>
       refine ⟨(k : Int) - 1, by omega, by omega, rfl, ⟨?_⟩, ⟨by repeat (first | exact .refl _ | apply Dr.dn)⟩⟩
       have e3 : ((k : Int) - 1 + 1).toNat = k := by omega
       have h5 := hd.out
       have e4 : ((k : Int) + 1).toNat = k + 1 := by omega
       rw [e4] at h5
       have h6 : x.getD k 0 = y.getD k 0 := by rw [ha.out, hb2.out]; omega
       rw [List.getD_eq_getElem?_getD, List.getD_eq_getElem?_getD, List.getElem?_eq_getElem hk, List.getElem?_eq_getElem hky] at h6
       rw [e3, List.drop_eq_getElem_cons hk, List.drop_eq_getElem_cons hky, h5]
       congr 1
      case measure => first | (simp [intOf]; done) | (simp [intOf]; omega)
   ·have hi0 : i = -1 := by omega
    subst hi0
    go_wp2
    go_ret
    refine ⟨retInt (cmpN_eq ?_).symm, ⟨nq, rfl⟩⟩
    have := hd.out
    simp at this
    rw [this]
 ·have hb : ((x.length : Int) != (y.length : Int)) = true := by rw [bne_iff_ne]; omega
  have hb2 : decide (x.length < y.length) = false := by rw [decide_eq_false_iff_not]; omega
  go_wp2
  go_ret
  exact ⟨retInt (cmpN_gt (val_lt_len V2.out V1.out T1.out hl)).symm, .refl _⟩
theorem add64 (x y c : Int) (hx : 0 ≤ x) (hy : 0 ≤ y) (hc0 : 0 ≤ c) (hc : c ≤ 1) (w : World) : (callFunc 229 #[.int .u64 x, .int .u64 y, .int .u64 c]).run Tryz.prog w =
    .ok (.value (.tuple #[.int .u64 ((x + y + c) % 18446744073709551616), .int .u64 ((x + y + c) / 18446744073709551616)])) w := by
 rw [run_callFunc_extern Tryz.func229 (by kernel_rfl) (by kernel_rfl) (by kernel_rfl) (e := add64Entry) (by kernel_rfl), run_add64 x y c hx hy hc0 hc]
 simp only [Result.andThen]
theorem add_step {x b : List Int} {i : Nat} {c : Int} {va : Nat} (hi : i < x.length) (hx : U64 x) (hb : U64 b) (hc : c = 0 ∨ c = 1)
    (h : val x + 18446744073709551616 ^ i * c.toNat = va + val (b.take i)) :
    U64 (x.set i ((x.getD i 0 + b.getD i 0 + c) % 18446744073709551616)) ∧ ((x.getD i 0 + b.getD i 0 + c) / 18446744073709551616 = 0 ∨ (x.getD i 0 + b.getD i 0 + c) / 18446744073709551616 = 1) ∧
    val (x.set i ((x.getD i 0 + b.getD i 0 + c) % 18446744073709551616)) + 18446744073709551616 ^ (i + 1) * ((x.getD i 0 + b.getD i 0 + c) / 18446744073709551616).toNat = va + val (b.take (i + 1)) := by
 have h1 := hx.at_ i
 have h2 := hb.at_ i
 refine ⟨hx.set i (by omega) (by omega), by omega, ?_⟩
 have h3 := val_set x i hi ((x.getD i 0 + b.getD i 0 + c) % 18446744073709551616)
 rw [val_take_succ, Nat.pow_succ]
 generalize val (x.set i ((x.getD i 0 + b.getD i 0 + c) % 18446744073709551616)) = z at *
 generalize 18446744073709551616 ^ i = p at *
 generalize x.getD i 0 = xi at *
 generalize b.getD i 0 = yi at *
 have e : ((xi + yi + c) % 18446744073709551616).toNat + 18446744073709551616 * ((xi + yi + c) / 18446744073709551616).toNat = xi.toNat + yi.toNat + c.toNat := by omega
 have e2 := congrArg (p * ·) e
 simp only [Nat.mul_add] at e2
 rw [← Nat.mul_assoc] at e2
 generalize p * ((xi + yi + c) % 18446744073709551616).toNat = q1 at *
 generalize p * 18446744073709551616 * ((xi + yi + c) / 18446744073709551616).toNat = q2 at *
 omega
theorem sub_step {x b : List Int} {i : Nat} {c s c' : Int} {va : Nat} (hi : i < x.length) (hx : U64 x) (hb : U64 b) (hc : c = 0 ∨ c = 1)
    (hs : s = (x.getD i 0 - b.getD i 0 - c) % 18446744073709551616) (hc' : c' = if x.getD i 0 < b.getD i 0 + c then 1 else 0)
    (h : val x + val (b.take i) = va + 18446744073709551616 ^ i * c.toNat) :
    U64 (x.set i s) ∧ (c' = 0 ∨ c' = 1) ∧ val (x.set i s) + val (b.take (i + 1)) = va + 18446744073709551616 ^ (i + 1) * c'.toNat := by
 have h1 := hx.at_ i
 have h2 := hb.at_ i
 have hs0 : 0 ≤ s ∧ s < 18446744073709551616 := by omega
 refine ⟨hx.set i hs0.1 hs0.2, by split at hc' <;> omega, ?_⟩
 have h3 := val_set x i hi s
 rw [val_take_succ, Nat.pow_succ]
 generalize val (x.set i s) = z at *
 generalize 18446744073709551616 ^ i = p at *
 generalize x.getD i 0 = xi at *
 generalize b.getD i 0 = yi at *
 have e : s.toNat + yi.toNat + c.toNat = xi.toNat + 18446744073709551616 * c'.toNat := by split at hc' <;> omega
 have e2 := congrArg (p * ·) e
 simp only [Nat.mul_add] at e2
 rw [← Nat.mul_assoc] at e2
 generalize p * s.toNat = q1 at *
 generalize p * 18446744073709551616 * c'.toNat = q2 at *
 omega
theorem sub_end {x l m : List Int} {n : Nat} {c : Int} (hx : U64 x) (hl : U64 l) (_hm : U64 m) (hn : x.length = n) (hln : val l < 18446744073709551616 ^ n) (hc : c = 0 ∨ c = 1) (hle : val m ≤ val l)
    (h : val x + val (m.take n) = val l + 18446744073709551616 ^ n * c.toNat) : val x = val l - val m := by
 have h1 := val_lt hx
 rw [hn] at h1
 have hm : val (m.take n) = val m := by
  rcases Nat.lt_or_ge n m.length with h2 | h2
  ·have h3 := val_take_drop m n (by omega)
   rcases Nat.eq_zero_or_pos (val (m.drop n)) with h4 | h4
   ·rw [h4] at h3; omega
   ·have := Nat.mul_le_mul_left (18446744073709551616 ^ n) h4
    generalize 18446744073709551616 ^ n * val (m.drop n) = q at *
    omega
  ·rw [List.take_of_length_le h2]
 rw [hm] at h
 rcases hc with rfl | rfl
 ·simp at h; omega
 ·simp at h; omega
theorem limb_Add (A B : Option Addr) (c d : Nat) (l m : List Int) (w : World) (h : RdI w .u64 A l) (hn : l.length ≤ c) (hb9 : l.length ≤ 1000000000)
    (h' : RdI w .u64 B m) (hn' : m.length ≤ d) (hb9' : m.length ≤ 1000000000) (hu : U64 l) (hu' : U64 m) :
    Calls Tryz.prog 302 #[.slice A l.length c, .slice B m.length d] w fun e w' => ∃ v, e = .returned v ∧ OwnI w' w.heap.size 112 .u64 v (limbs (val l + val m)) ∧ Below w.heap.size w w' := by
 obtain ⟨i0, hi, hz0, hz1, hz2⟩ := info_split Tryz.infU64
 have t1 := trimL_len l
 have V1 : Hd (U64 (trimL l)) := ⟨by rw [trimL_take]; exact hu.take _⟩
 have E1 := Hd.mk (val_trim l)
 go_enter Tryz.func302, Tryz.ntmps302
 go_wp2_with fail
 refine (limb_trim A c l w h hn (by omega)).mono ?_
 rintro e w' ⟨rfl, rfl⟩
 by_cases h0 : (trimL l).length = 0
 ·have hz : (((trimL l).length : Int) == 0) = true := by rw [beq_iff_eq]; omega
  have H0 := Hd.mk h0
  clear h0
  go_wp2_with fail
  refine (limb_Trim B d m w h' hn' hb9').mono ?_
  rintro e w' ⟨v, rfl, ho, hb⟩
  have HO := Hd.mk ho
  have HB := Hd.mk hb
  clear ho hb
  go_wp2_with fail
  go_ret
  refine ⟨_, rfl, ?_, HB.out⟩
  have e0 : trimL l = [] := List.eq_nil_of_length_eq_zero H0.out
  have e1 := E1.out
  rw [e0] at e1
  rw [← e1, val, Nat.zero_add, ← trim_limbs hu']
  exact HO.out
 ·have hz : (((trimL l).length : Int) == 0) = false := by rw [beq_eq_false_iff_ne]; omega
  clear h0
  go_wp2_with fail
  refine (limb_Trim A c l w h hn hb9).mono ?_
  rintro e w' ⟨v, rfl, ho, hb⟩
  have HO := Hd.mk ho
  have HB := Hd.mk hb
  have H' := Hd.mk (h'.up hb)
  have HU := Hd.mk h'
  clear ho hb hz h h'
  obtain ⟨t, htt⟩ : ∃ t, t = (trimL l).length := ⟨_, rfl⟩
  have HT := Hd.mk htt
  rw [← htt] at t1
  clear htt
  go_wp2_with fail
  go_loopg [5, 6, 7] (max t m.length + 2) (fun g vx vc vi wr => ∃ (xs : List Int) (i : Nat) (cy : Int), vc = .int .u64 cy ∧ vi = .int .i64 i ∧ Hd (cy = 0 ∨ cy = 1) ∧ Hd (OwnI wr w.heap.size 112 .u64 vx xs) ∧ Hd (Below w.heap.size w wr) ∧ Hd (U64 xs) ∧
   Hd (val xs + 18446744073709551616 ^ i * cy.toNat = val l + val (m.take i)) ∧ Hd (xs.length = max t i) ∧ Hd (i ≤ max t m.length ∨ cy = 0 ∧ i = max t m.length + 1) ∧ Hd (g + i = max t m.length + 2))
  case atStart => exact ⟨trimL l, 0, 0, rfl, rfl, ⟨.inl rfl⟩, ⟨HO.out⟩, ⟨HB.out⟩, V1, ⟨by rw [E1.out]; simp [val]⟩, ⟨by rw [HT.out]; simp⟩, ⟨.inl (by omega)⟩, ⟨by omega⟩⟩
  case round =>
   obtain ⟨xs, i, cy, rfl, rfl, hcy, hown, hbel, hxu, hval, hlen, hend, hg⟩ := hrel
   have hi9 : i ≤ 1000000001 := by have := hend.out; omega
   obtain ⟨gk, rfl⟩ : ∃ g1, gk = g1 + 1 := ⟨gk - 1, by have := hend.out; have := hg.out; omega⟩
   by_cases hgo : i < m.length ∨ cy = 1
   ·have HG := Hd.mk hgo
    have hgo2 : decide (i < m.length) = true ∨ (decide (i < m.length) = false ∧ decide (0 < cy) = true) := by
     by_cases hq : i < m.length
     ·exact .inl (decide_eq_true hq)
     ·exact .inr ⟨decide_eq_false hq, decide_eq_true (by omega)⟩
    have hx9 : xs.length ≤ 1000000001 := by have := hlen.out; omega
    have hcy01 : 0 ≤ cy ∧ cy ≤ 1 := by have := hcy.out; omega
    clear hgo
    obtain ⟨A5, c5, rfl, hc5, hm5, hr5⟩ := hown.out.reads
    have HR5 := Hd.mk hr5
    clear hr5
    rcases hgo2 with hd | ⟨hd, hd2⟩
    all_goals
     go_upto_if 30 with (fail)
     go_cut [5] (fun v5 wx => ∃ ys : List Int, Hd (i < ys.length) ∧ Hd (ys.length = max t (i + 1)) ∧ Hd (U64 ys) ∧ Hd (val ys = val xs) ∧ Hd (xs.length ≤ i → ys.getD i 0 = 0) ∧ Hd (OwnI wx w.heap.size 112 .u64 v5 ys) ∧ Hd (Below w.heap.size w wx))
     case first =>
      by_cases hx : i < xs.length
      ·have hxb : decide (xs.length ≤ i) = false := by rw [decide_eq_false_iff_not]; omega
       go_wp2
       go_meet
       exact ⟨xs, ⟨hx⟩, ⟨by have := hlen.out; omega⟩, hxu, ⟨rfl⟩, ⟨fun h => by omega⟩, hown, hbel⟩
      ·have hxb : decide (xs.length ≤ i) = true := by rw [decide_eq_true_iff]; omega
       go_wp2_with (at_builtin; go_loud (refine wpList_append_rd _ rfl _ _ 61 rfl w.heap.size 112 i0 (.int .u64 0) 1 8 Tryz.slU64 hi hz0 hz1 hz2 rfl (by decide) _ _ _ rfl (hown.out.al _) _ _ 1 1 (ints .u64 [0]) rfl (Rd.new_ wr #[.int .u64 0] 112 1 1 rfl) (ints_one _ _) ?c1 ?c2 ?c3 ?_))
       case c1 => unfold maxLen; omega
       case c2 => omega
       case c3 => have := hbel.out.size; simp; omega
       intro v' w' ho hg _
       go_wp2
       go_meet
       have hxi : xs.length = i := by have := hlen.out; omega
       have ho2 : OwnI w' w.heap.size 112 .u64 v' (xs ++ [0]) := by
        unfold OwnI; rw [ints_app, List.length_append]; exact ho
       have hB := hbel.out.size
       exact ⟨xs ++ [0], ⟨by simp; omega⟩, ⟨by have := hlen.out; simp; omega⟩, ⟨hxu.out.app (U64.nil.cons (by omega) (by omega))⟩, ⟨val_snoc0 xs⟩, ⟨fun _ => by rw [← hxi]; simp⟩, ⟨ho2⟩,
        ⟨grown_below (hown.out.al _) hg (hbel.out.alloc hB _) (by simp; omega)⟩⟩
     case rest =>
      obtain ⟨ys, hy1, hy2, hyu, hyv, hyz, hyo, hyb⟩ := hcut
      clear hown HR5
      have HM := Hd.mk (HU.out.up hyb.out)
      obtain ⟨g, c6, x, rfl, hg1, hg2, hx, hcell, hfro, hset⟩ := hyo.out.cell hy1.out
      have HS := Hd.mk hset
      clear hset
      go_upto_if 37 with (fail)
      go_cut [8] (fun v8 wx => v8 = .int .u64 (m.getD i 0) ∧ wx = wc)
      case first =>
       by_cases hlt : i < m.length
       ·obtain ⟨bd, y, rfl, _, hy, hcb⟩ := HM.out.get hlt
        have hd3 : decide (i < m.length) = true := decide_eq_true hlt
        first
        | exact absurd hlt (of_decide_eq_false hd)
        | (go_wp2; go_meet; exact ⟨by rw [hy.out], rfl⟩)
       ·have hd3 : decide (i < m.length) = false := decide_eq_false hlt
        first
        | exact absurd (of_decide_eq_true hd) hlt
        | (go_wp2; go_meet; exact ⟨by rw [getD_out (by omega)], rfl⟩)
      case rest =>
       obtain ⟨rfl, rfl⟩ := hcut
       obtain ⟨y, hy⟩ : ∃ y, m.getD i 0 = y := ⟨_, rfl⟩
       have hy0 := hu'.at_ i
       have hx0 := hyu.out.at_ i
       rw [hx.out] at hx0
       rw [hy] at hy0
       have HY := Hd.mk hy
       rw [hy]
       clear hy
       have hi2 := hy1.out
       go_wp2_with (simp only [add64 x y cy hx0.1 hy0.1 hcy01.1 hcy01.2])
       go_roundg gk
       case measure => omega
       case rel =>
        have hst := add_step (b := m) (c := cy) (va := val l) hi2 hyu.out hu' hcy.out (by rw [hyv.out]; exact hval.out)
        rw [hx.out, HY.out] at hst
        obtain ⟨q1, q2, q3⟩ := hst
        refine ⟨_, i + 1, _, rfl, by go_num, ⟨q2⟩, ⟨HS.out _⟩, ⟨hyb.out.setCell hg1 _⟩, ⟨q1⟩, ⟨q3⟩, ⟨by rw [List.length_set]; exact hy2.out⟩, ⟨?_⟩, ⟨by have := hg.out; omega⟩⟩
        by_cases hM : i + 1 ≤ max t m.length
        ·exact .inl hM
        ·have h1 := hend.out
         have h2 := HG.out
         have h3 := hlen.out
         have hxz : x = 0 := by rw [← hx.out]; exact hyz.out (by omega)
         have hyz : y = 0 := by rw [← HY.out]; exact getD_out (by omega)
         subst hxz hyz
         refine .inr ⟨by omega, by omega⟩
   ·have hd : decide (i < m.length) = false := decide_eq_false (by omega)
    have hc0 : cy = 0 := by have := hcy.out; omega
    subst hc0
    obtain ⟨A5, c5, rfl, hc5, hm5, hr5⟩ := hown.out.reads
    have HR5 := Hd.mk hr5
    clear hr5
    go_wp2_with fail
    refine (limb_trim A5 c5 xs wr HR5.out hc5 (by have := hlen.out; omega)).mono ?_
    rintro e w2 ⟨rfl, rfl⟩
    go_wp2_with fail
    go_ret
    refine ⟨_, rfl, ?_, hbel.out⟩
    have h5 := hval.out
    rw [List.take_of_length_le (by omega)] at h5
    simp at h5
    rw [← h5, ← trim_limbs hxu.out]
    have h6 := hown.out.pre (trimL_len xs)
    rw [← trimL_take] at h6
    exact h6
end Go.Proofs.YtgjkgkgieeoalaaGreat
