/- Parts of the proof, joined: each theorem says what it shows. -/
import Derived.Test.YtgjkgkgieeoalaaGreatC29
import Derived.Test.YtgjkgkgieeoalaaGreatC05
import Derived.Test.YtgjkgkgieeoalaaGreatC26
import Derived.Test.YtgjkgkgieeoalaaGreatC27
import Derived.Test.YtgjkgkgieeoalaaGreatC25
set_option linter.unusedVariables false
set_option linter.unusedSimpArgs false
set_option maxHeartbeats 24000000
set_option maxRecDepth 100000
namespace Go.Proofs.YtgjkgkgieeoalaaGreat
open Go.RowKit
theorem subM_at {a b : MonD} {i : Nat} {x y : Int} (hi : i < 4) (hx : a.l.getD i 0 = x) (hy : b.l.getD i 0 = y) : (subM a b).l.getD i 0 = x - y := by
 subst hx hy
 rcases (show i = 0 ∨ i = 1 ∨ i = 2 ∨ i = 3 by omega) with rfl | rfl | rfl | rfl <;> rfl
theorem Mu.up {S g1 g2 g3 g4 : Nat} {w0 w w' : World} {a b m : MonD} (h : Mu S g1 g2 g3 g4 w0 w a b m) (hb : Below w.heap.size w w') : Mu S g1 g2 g3 g4 w0 w' a b m :=
 ⟨h.bo.up hb, h.s3, h.s4, h.n1, h.n2, h.n3, h.k3.up hb, h.k4.up hb⟩
theorem Mu.res {S g1 g2 g3 g4 : Nat} {w0 w : World} {a b m : MonD} (h : Mu S g1 g2 g3 g4 w0 w a b m) (v0 v1 v2 v3 : Value) : Bk ((((w.setCell ⟨g3, 0, none⟩ v0).setCell ⟨g3, 1, none⟩ v1).setCell ⟨g3, 2, none⟩ v2).setCell ⟨g3, 3, none⟩ v3) g3 66 #[v0, v1, v2, v3] ∧
    Below S w0 ((((w.setCell ⟨g3, 0, none⟩ v0).setCell ⟨g3, 1, none⟩ v1).setCell ⟨g3, 2, none⟩ v2).setCell ⟨g3, 3, none⟩ v3) :=
 ⟨h.k3.set4 _ _ _ _, Below.set4 h.bo.below h.s3 _ _ _ _⟩
theorem monDiv_no {a b : MonD} {i : Nat} {x y : Int} (hi : i < 4) (hx : a.l.getD i 0 = x) (hy : b.l.getD i 0 = y) (h : x < y) : monDiv a b = (false, zeroM) := by
 unfold monDiv
 split
 ·rfl
 ·rw [mon_bad hi (subM_at hi hx hy) (.inl (by omega)), if_pos rfl]
theorem subM_may {a b : MonD} (ha : monMay a = true) (hb : monMay b = true) (h : ∀ i, i < 4 → b.l.getD i 0 ≤ a.l.getD i 0) : monMay (subM a b) = true := by
 obtain ⟨a0, a1, a2, a3⟩ := monMay_of ha
 obtain ⟨b0, b1, b2, b3⟩ := monMay_of hb
 have h0 := h 0 (by omega)
 have h1 := h 1 (by omega)
 have h2 := h 2 (by omega)
 have h3 := h 3 (by omega)
 simp only [MonD.l, List.getD_cons_zero, List.getD_cons_succ] at h0 h1 h2 h3
 unfold monMay MonD.l subM
 simp only [List.any_cons, List.any_nil, badE]
 simp
 omega
theorem rmon_Div (a b : MonD) (w : World) :
    Calls Tryz.prog 34 #[.agg a.v, .agg b.v] w fun e w' => e = .returned (.tuple #[.agg (monDiv a b).2.v, .bool (monDiv a b).1]) ∧ Below w.heap.size w w' := by
 obtain ⟨E, hE⟩ : ∃ E, monDiv a b = E := ⟨_, rfl⟩
 rw [hE]
 have HEQ := Hd.mk hE
 clear hE
 go_enter Tryz.func34, Tryz.ntmps34
 go_upto_region 2 with (fail)
 refine wp_gen (fun W => Mu w.heap.size w.heap.size (w.heap.size + 1) (w.heap.size + 1 + 1) (w.heap.size + 1 + 1 + 1) w W a b zeroM) ⟨((Bo2.mk2 w _ _ _ _).up ((Below.refl _ _).alloc (Nat.le_refl _) _)).up ((Below.refl _ _).alloc (Nat.le_refl _) _), by omega, by omega, by omega, by omega, by omega, by
  have := (Bk.new_ ((w.alloc (Obj.cells a.v 66)).alloc (Obj.cells b.v 66)) 66 zeroM.v).al (Obj.cells zeroM.v 66)
  simpa [MonD.v, zeroM] using this, by
  have := Bk.new_ (((w.alloc (Obj.cells a.v 66)).alloc (Obj.cells b.v 66)).alloc (Obj.cells zeroM.v 66)) 66 zeroM.v
  simpa [MonD.v, zeroM] using this⟩ ?_
 intro W MU
 generalize w.heap.size + 1 + 1 + 1 = g4 at MU ⊢
 generalize w.heap.size + 1 + 1 = g3 at MU ⊢
 generalize w.heap.size + 1 = g2 at MU ⊢
 obtain ⟨p0, p1, p2, p3⟩ := MU.out.bo.k1.four
 have CA := Hd.mk (rmon_May a W)
 cases hma : monMay a
 ·rw [hma] at CA
  have HE : Hd (E = (false, zeroM)) := ⟨by rw [← HEQ.out]; unfold monDiv; rw [hma]; rfl⟩
  clear hma
  go_wp2_with fail
  refine CA.out.mono ?_
  rintro e w2 ⟨rfl, hb⟩
  have MU2 := Hd.mk (MU.out.up hb)
  obtain ⟨q0, q1, q2, q3⟩ := MU2.out.k4.four
  obtain ⟨r0, r1, r2, r3⟩ := MU2.out.k3.four
  have fz := fun i => MU2.out.k3.froz i
  clear hb
  go_wp2_with fail
  obtain ⟨d1, d2⟩ := MU2.out.res (.int .i64 0) (.int .i64 0) (.int .i64 0) (.int .i64 0)
  refine bodyPost_ret (res_mono2 rfl _ _ g3 _ rfl d1 rfl) rfl ?_
  rw [HE.out]
  exact ⟨rfl, d2⟩
 rw [hma] at CA
 have CB := Hd.mk (rmon_May b)
 cases hmb : monMay b
 ·rw [hmb] at CB
  have HE : Hd (E = (false, zeroM)) := ⟨by rw [← HEQ.out]; unfold monDiv; rw [hma, hmb]; rfl⟩
  clear hma hmb
  go_wp2_with fail
  refine CA.out.mono ?_
  rintro e w2 ⟨rfl, hb⟩
  have MU2 := Hd.mk (MU.out.up hb)
  obtain ⟨s0, s1, s2, s3⟩ := MU2.out.bo.k2.four
  clear hb p0 p1 p2 p3
  go_wp2_with fail
  clear s0 s1 s2 s3
  refine (CB.out _).mono ?_
  rintro e w3 ⟨rfl, hb⟩
  have MU3 := Hd.mk (MU2.out.up hb)
  obtain ⟨q0, q1, q2, q3⟩ := MU3.out.k4.four
  obtain ⟨r0, r1, r2, r3⟩ := MU3.out.k3.four
  have fz := fun i => MU3.out.k3.froz i
  clear hb
  go_wp2_with fail
  obtain ⟨d1, d2⟩ := MU3.out.res (.int .i64 0) (.int .i64 0) (.int .i64 0) (.int .i64 0)
  refine bodyPost_ret (res_mono2 rfl _ _ g3 _ rfl d1 rfl) rfl ?_
  rw [HE.out]
  exact ⟨rfl, d2⟩
 rw [hmb] at CB
 have HNO := Hd.mk (fun {i : Nat} {x y : Int} => monDiv_no (a := a) (b := b) (i := i) (x := x) (y := y))
 have HAB := Hd.mk (fun {i : Nat} {x y : Int} => subM_at (a := a) (b := b) (i := i) (x := x) (y := y))
 have HYES : Hd ((∀ i, i < 4 → b.l.getD i 0 ≤ a.l.getD i 0) → E = (true, subM a b)) := ⟨fun h => by rw [← HEQ.out]; unfold monDiv; rw [hma, hmb, if_neg (by simp), subM_may hma hmb h, if_neg (by simp)]⟩
 rw [HEQ.out] at HNO
 have HM := Hd.mk (And.intro hma hmb)
 generalize subM a b = z at HAB HYES
 clear hma hmb
 go_wp2_with fail
 refine CA.out.mono ?_
 rintro e w2 ⟨rfl, hb⟩
 have MU2 := Hd.mk (MU.out.up hb)
 obtain ⟨s0, s1, s2, s3⟩ := MU2.out.bo.k2.four
 clear hb p0 p1 p2 p3 CA
 go_wp2_with fail
 clear s0 s1 s2 s3
 refine (CB.out _).mono ?_
 rintro e w3 ⟨rfl, hb⟩
 have MU3 : Hd (Mu w.heap.size w.heap.size g2 g3 g4 w w3 a b (part z 0)) := ⟨MU2.out.up hb⟩
 clear hb CB MU MU2
 go_wp2_with fail
 go_loopw [7] (fun v wr => ∃ i : Nat, v = .int .i64 i ∧ i ≤ 4 ∧ Hd (Mu w.heap.size w.heap.size g2 g3 g4 w wr a b (part z i)) ∧ Hd (∀ j, j < i → b.l.getD j 0 ≤ a.l.getD j 0)) (fun v _ => 4 - (intOf v).toNat)
 case atStart => exact ⟨0, rfl, by omega, MU3, ⟨fun j h => absurd h (by omega)⟩⟩
 case round =>
  clear MU3
  obtain ⟨i, rfl, hi, MU, HLE⟩ := hrel
  by_cases hlt : i < 4
  ·obtain ⟨x, HX, hcx⟩ := cellM MU.out.bo.k1 hlt
   obtain ⟨y, HY, hcy⟩ := cellM MU.out.bo.k2 hlt
   obtain ⟨x0, x1⟩ := mon_rng HM.out.1 hlt HX.out
   obtain ⟨y0, y1⟩ := mon_rng HM.out.2 hlt HY.out
   have i1 : (i : Int) < 4 := by omega
   have i3 : (0 : Int) ≤ i := by omega
   by_cases hxy : x < y
   ·have HE := Hd.mk (HNO.out hlt HX.out HY.out hxy)
    obtain ⟨r0, r1, r2, r3⟩ := MU.out.k3.four
    have fz := fun i => MU.out.k3.froz i
    clear HNO HAB
    go_wp2_with fail
    go_quiet (fail)
    go_wp2_with fail
    obtain ⟨d1, d2⟩ := (MU.out.dn nq).res (.int .i64 0) (.int .i64 0) (.int .i64 0) (.int .i64 0)
    refine bodyPost_ret (res_mono2 rfl _ _ g3 _ rfl d1 rfl) rfl ?_
    rw [HE.out]
    exact ⟨rfl, d2⟩
   ·have HZ := Hd.mk (HAB.out hlt HX.out HY.out)
    have HL2 : Hd (∀ j, j < i + 1 → b.l.getD j 0 ≤ a.l.getD j 0) := ⟨fun j hj => by
     rcases Nat.lt_or_ge j i with h | h
     ·exact HLE.out j h
     ·obtain rfl : j = i := by omega
      rw [HX.out, HY.out]; omega⟩
    have hw : IntKind.i64.wrap (x - y) = x - y := by rw [IntKind.wrap_i64]; omega
    have fz := MU.out.k4.froz i
    obtain ⟨u, HU, hcu⟩ := cellM MU.out.k4 hlt
    have HN1 := MU.out.n1
    have HN2 := MU.out.n2
    clear HNO HAB
    go_wp2_with fail
    go_quiet (fail)
    have MUq := Hd.mk (MU.out.dn nq)
    have hcx' : (wr.drewN nq).cell? ⟨w.heap.size, i, none⟩ = some (.int .i64 x) := hcx
    have hcy' : (wr.drewN nq).cell? ⟨g2, i, none⟩ = some (.int .i64 y) := hcy
    have hcu' : (wr.drewN nq).cell? ⟨g4, i, none⟩ = some (.int .i64 u) := hcu
    have fz' : (wr.drewN nq).frozen? ⟨g4, i, none⟩ = false := fz
    generalize wr.drewN nq = wq at MUq hcx' hcy' hcu' fz' ⊢
    have HMU := Hd.mk (fun n => (MUq.out.dn n).set hlt HZ.out)
    clear hcx hcy hcu fz MU
    go_wp2_with fail
    go_region_held3 (fun w' => Hd (Below w.heap.size w w') ∧ w'.cell? ⟨w.heap.size, i, none⟩ = some (.int .i64 x) ∧ w'.cell? ⟨g2, i, none⟩ = some (.int .i64 y))
     (first
      | exact ⟨⟨MUq.out.bo.below⟩, hcx', hcy'⟩
      | exact ⟨⟨(MUq.out.dn 1).bo.below⟩, hcx', hcy'⟩
      | exact ⟨⟨(MUq.out.dn 1).bo.below.setCell MUq.out.s4 _⟩, (far1 rfl HN1).trans hcx', (far1 rfl HN2).trans hcy'⟩)
     (fail)
    all_goals
     go_wp2_with fail
     go_roundw
     case measure => first | (simp [intOf]; done) | (simp [intOf]; omega)
     case rel => exact ⟨_, by go_num, by omega, ⟨HMU.out 1⟩, HL2⟩
  ·obtain rfl : i = 4 := by omega
   have MU : Hd (Mu w.heap.size w.heap.size g2 g3 g4 w wr a b z) := MU
   have HE := Hd.mk (HYES.out HLE.out)
   obtain ⟨q0, q1, q2, q3⟩ := MU.out.k4.four
   obtain ⟨r0, r1, r2, r3⟩ := MU.out.k3.four
   have fz := fun i => MU.out.k3.froz i
   clear HNO HAB
   go_wp2_with fail
   obtain ⟨d1, d2⟩ := MU.out.res (.int .i64 z.x0) (.int .i64 z.x1) (.int .i64 z.x2) (.int .i64 z.x3)
   refine bodyPost_ret (res_mono2 rfl _ _ g3 _ rfl d1 rfl) rfl ?_
   rw [HE.out]
   exact ⟨rfl, d2⟩
def dividesD : List (List TermD) → MonD → Option (Nat × MonD)
 | [], _ => none
 | [] :: l, m => (dividesD l m).map fun x => (x.1 + 1, x.2)
 | (b :: _) :: l, m => if (monDiv m b.m).1 = true then some (0, (monDiv m b.m).2) else (dividesD l m).map fun x => (x.1 + 1, x.2)
def moveD (o : Int) (p b q : List TermD) (k : Nat) (m : MonD) : Int × (List TermD × List TermD) :=
 match p, b with
 | t :: _, u :: _ =>
   if 400 ≤ k then (120, [], []) else
   if (mulD t.c (invD u.c).2).1 ≠ 0 then ((mulD t.c (invD u.c).2).1, [], []) else
   if 60 ≤ q.length then (90, [], []) else
   if (polTimes o b ⟨negD (mulD t.c (invD u.c).2).2, m⟩).1 ≠ 0 then ((polTimes o b ⟨negD (mulD t.c (invD u.c).2).2, m⟩).1, [], []) else
   if (polAdd o [p, (polTimes o b ⟨negD (mulD t.c (invD u.c).2).2, m⟩).2]).1 ≠ 0 then ((polAdd o [p, (polTimes o b ⟨negD (mulD t.c (invD u.c).2).2, m⟩).2]).1, [], []) else
   (0, (polAdd o [p, (polTimes o b ⟨negD (mulD t.c (invD u.c).2).2, m⟩).2]).2, q ++ [⟨(mulD t.c (invD u.c).2).2, m⟩])
 | _, _ => (0, [], [])
def splitF (o : Int) (l : List (List TermD)) : Nat → List TermD → List (List TermD) → List TermD → Nat → Int × List (List TermD) × List TermD
 | 0, _, _, _, _ => (0, [], [])
 | _ + 1, [], qs, r, _ => (0, qs, r)
 | n + 1, t :: p, qs, r, k =>
   match dividesD l t.m with
   | none => if 60 ≤ r.length then (90, [], []) else splitF o l n p qs (r ++ [t]) k
   | some (i, m) =>
     if (moveD o (t :: p) (l.getD i []) (qs.getD i []) k m).1 ≠ 0 then ((moveD o (t :: p) (l.getD i []) (qs.getD i []) k m).1, [], []) else
     splitF o l n (moveD o (t :: p) (l.getD i []) (qs.getD i []) k m).2.1 (qs.set i (moveD o (t :: p) (l.getD i []) (qs.getD i []) k m).2.2) r (k + 1)
def splitD (o : Int) (p : List TermD) (l : List (List TermD)) : Int × List (List TermD) × List TermD :=
 if (polMay o p && decide (l.length ≤ 24) && l.all (polMay o)) = false then (1, [], []) else splitF o l (400 * 61 + 61) p (List.replicate l.length []) [] 0
structure Apg (b0 base : Nat) (w w' : World) (v v' : Value) (ds us : List TermD) : Prop where
 own : OwnT w' b0 base v' (ds ++ us)
 grow : w.grownBy w' v.ownBlock
 at_ : v'.ownBlock = v.ownBlock ∨ v'.ownBlock = some w.heap.size
theorem step_append_G {w : World} {ops : Array Oper} {o : Oper} {a : Act} {K : Act → World → Prop} {Q : Exit → Act → World → Prop} {E : Prop} (hgd : o.guard = none) (s x : Operand) (t : TypeId)
    (ho : o.op = .call { callee := .builtin .append, args := #[s, x], argTypes := #[t, t] }) (ht : Tryz.prog.underlying t = some (.slice 68))
    {b0 base : Nat} {v : Value} {ds us : List TermD} {A : Option Addr} {m c : Nat} (hs : a.eval s = v) (hx : a.eval x = .slice A m c) (hm : m = us.length) (hO : OwnT w b0 base v ds) (hR : RPol w b0 A us)
    (hb : b0 ≤ base) (hlen : ds.length + us.length ≤ 1000000) (hbase : base ≤ w.heap.size)
    (h : ∀ v' w', Apg b0 base w w' v v' ds us → K (a.put o.dst v') w') : if Region.wanted o (yielded ops a.tmps) = true then Oper.wp Tryz.prog o a w K Q else E := by
 subst hm
 obtain ⟨i0, hi0, hz0, hz1, hz2⟩ := info_split Tryz.infTerm
 obtain ⟨cs, o1, o2⟩ := hO
 obtain ⟨ds', r1, r2⟩ := hR
 refine step_append_rdN w hgd s x t ho base 68 i0 _ 7 88 ht hi0 hz0 hz1 hz2 rfl (by decide) v ds.length cs hs o1 _ A us.length c ds' hx r1 r2.one (by unfold maxLen; omega) (by omega) hbase ?_
 intro v' w' h1 hg hat
 exact h v' w' ⟨OwnT.app o1 o2 r2 hb hg h1, hg, hat⟩
theorem Apg.below {b0 base B : Nat} {w w' w0 : World} {v v' : Value} {ds us : List TermD} (h : Apg b0 base w w' v v' ds us) (hO : OwnT w b0 base v ds) (hB : Below B w0 w) (hb : B ≤ base) (hbase : base ≤ w.heap.size) : Below B w0 w' :=
 hB.grown h.grow (Nat.le_trans hb hbase) fun k hk => Nat.le_trans hb (hO.lt hk).2.1
end Go.Proofs.YtgjkgkgieeoalaaGreat
namespace Go.Proofs.YtgjkgkgieeoalaaGreat
open Go.RowKit Go.PlainAid
theorem eatK_ge (s : ByteArray) (k : Nat) (c : Int) : k ≤ eatK s k c := by
 have := (skipF_ge s (s.size - k) k).1
 unfold eatK
 split <;> (unfold skipD; omega)
theorem eatK_gt {s : ByteArray} {k : Nat} {c : Int} (h : eatB s k c = true) : k < eatK s k c := by
 have := (skipF_ge s (s.size - k) k).1
 unfold eatK
 rw [if_pos h]
 unfold skipD; omega
theorem numberK_ge {s : ByteArray} {k : Nat} (h : k ≤ s.size) : k ≤ numberK s k := by
 have h1 := (skipF_ge s (s.size - k) k).1
 have h2 := (runD_le (skipD_le h)).1
 unfold numberK
 unfold skipD at *
 omega
theorem factorD_le {s : ByteArray} {k : Nat} {bad : Bool} (h : k ≤ s.size) : k ≤ (factorD s k bad).2.1 ∧ (factorD s k bad).2.1 ≤ s.size := by
 have h0 := (skipF_ge s (s.size - k) k).1
 have h1 := skipD_le h
 unfold factorD
 dsimp only
 have hk1 : k ≤ skipD s k := h0
 split
 ·have a1 := eatK_le (c := bt s (skipD s k)) h1
  have a2 := eatK_ge s (skipD s k) (bt s (skipD s k))
  have b1 := eatK_le (c := 94) a1
  have b2 := eatK_ge s (eatK s (skipD s k) (bt s (skipD s k))) 94
  split
  ·have c1 := numberK_le b1
   have c2 := numberK_ge b1
   exact ⟨Nat.le_trans hk1 (Nat.le_trans a2 (Nat.le_trans b2 c2)), c1⟩
  ·exact ⟨Nat.le_trans hk1 (Nat.le_trans a2 b2), b1⟩
 ·have a1 := numberK_le h1
  have a2 := numberK_ge h1
  have b1 := eatK_le (c := 47) a1
  have b2 := eatK_ge s (numberK s (skipD s k)) 47
  split
  ·have c1 := numberK_le b1
   have c2 := numberK_ge b1
   exact ⟨Nat.le_trans hk1 (Nat.le_trans a2 (Nat.le_trans b2 c2)), c1⟩
  ·exact ⟨Nat.le_trans hk1 (Nat.le_trans a2 b2), b1⟩
def facsF (s : ByteArray) : Nat → List FacD → Nat → Bool → List FacD × Nat × Bool
 | 0, fs, k, bad => (fs, k, bad)
 | n + 1, fs, k, bad =>
   if bad = true then (fs, k, bad) else
   if eatB s k 42 = true then facsF s n (fs ++ [(factorD s (eatK s k 42) bad).1]) (factorD s (eatK s k 42) bad).2.1 (factorD s (eatK s k 42) bad).2.2 else (fs, eatK s k 42, bad)
structure ProdD where
 neg : Bool
 fs : List FacD
def productD (s : ByteArray) (k : Nat) (bad neg : Bool) : ProdD × Nat × Bool :=
 let x := factorD s k bad
 let y := facsF s (s.size + 1) [x.1] x.2.1 x.2.2
 (⟨neg, y.1⟩, y.2.1, y.2.2)
def cellsF (fs : List FacD) : List Value := fs.flatMap fun f => [.int .i64 f.var, .string f.up, .string f.down]
def OwnF (w : World) (base : Nat) (v : Value) (fs : List FacD) : Prop := w.ownsRow base 292 3 v fs.length (cellsF fs)
theorem Tryz.stPro : isStruct (Tryz.prog.underlying 251) = true := by kernel_rfl
theorem Tryz.szPro : (Tryz.prog.info? 251).map (·.size) = some 2 := by kernel_rfl
theorem res_pro {fn : Func} {p : Tmp} (h : fn.results = #[.cell p 251]) (tmps : Array Value) (w : World) (g : Nat) (cs : Array Value) (hp : tmps.getD p undef = .pointer (some ⟨g, 0, none⟩)) (hk : Bk w g 251 cs) (hc : cs.size = 2) :
    (results fn tmps).run Tryz.prog w = .ok (.agg cs) w := by
 obtain ⟨f, h1⟩ := st_of Tryz.stPro
 exact results_cell_row h tmps w g _ cs (0, 0) (.struct f) hp hk h1 rfl (by rw [hc]; exact Tryz.szPro)
theorem Tryz.slFac : Tryz.prog.underlying 249 = some (.slice 292) := by kernel_rfl
theorem Tryz.infFac : (Tryz.prog.info? 292).map (fun i => (i.zero, i.size, i.bytes)) = some (some (.agg #[.int .i64 0, .string ⟨#[]⟩, .string ⟨#[]⟩]), 3, 40) := by kernel_rfl
theorem Bk.two' {w : World} {g : Nat} {t : TypeId} {v0 v1 : Value} (h : Bk w g t #[v0, v1]) : w.cell? ⟨g, 0, none⟩ = some v0 ∧ w.cell? ⟨g, 1, none⟩ = some v1 := by
 refine ⟨?_, ?_⟩ <;> (rw [h.cell]; rfl)
theorem gb_new {w w1 w2 : World} {row r2 : Option Nat} (h : w.grownBy w1 row) (k : w1.grownBy w2 r2) (hr : ∀ b, r2 = some b → w.heap.size ≤ b) : w.grownBy w2 row :=
 ⟨k.os.trans h.os, k.tape.trans h.tape, k.output.trans h.output, Nat.le_trans h.size k.size, fun b hb hne => (k.block b (Nat.lt_of_lt_of_le hb h.size) (fun e => absurd hb (Nat.not_lt.2 (hr b e.symm)))).trans (h.block b hb hne)⟩
theorem OwnF.up {w w' : World} {base : Nat} {v : Value} {fs : List FacD} (h : OwnF w base v fs) (hb : Below w.heap.size w w') : OwnF w' base v fs := own_below h hb
theorem OwnF.grown {w w' : World} {base g : Nat} {v : Value} {fs : List FacD} {t : TypeId} {cs : Array Value} (h : OwnF w base v fs) (hg : w.grownBy w' (some g)) (hk : Bk w g t cs) (ht : t ≠ 292) : OwnF w' base v fs :=
 World.ownsRow.kept h hg (by
  cases e : v.ownBlock with
  | none => exact .inl rfl
  | some b =>
    refine .inr fun e2 => ?_
    obtain ⟨⟨ds, hk2⟩, _⟩ := own_bk h e
    injection e2 with e2
    exact Bk.ne_ hk hk2 ht e2.symm)
theorem OwnF.ne {w : World} {base g : Nat} {v : Value} {fs : List FacD} {t : TypeId} {cs : Array Value} (h : OwnF w base v fs) (hk : Bk w g t cs) (ht : t ≠ 292) : some g ≠ v.ownBlock := fun e => by
 obtain ⟨⟨ds, hk2⟩, _⟩ := own_bk h e.symm
 exact Bk.ne_ hk hk2 ht rfl
theorem cellsF_app (fs : List FacD) (f : FacD) : cellsF (fs ++ [f]) = cellsF fs ++ [.int .i64 f.var, .string f.up, .string f.down] := by simp [cellsF]
theorem OwnF.one {w : World} {base : Nat} (f : FacD) (hb : base ≤ w.heap.size) : OwnF (w.alloc (.cells f.v 292)) base (.slice (some ⟨w.heap.size, 0, none⟩) 1 1) [f] :=
 World.ownsRow_lit (e := 292) (size := 3) w f.v 1 hb (by unfold maxLen; omega) rfl
theorem OwnF.reads {w : World} {base : Nat} {v : Value} {fs : List FacD} (h : OwnF w base v fs) : ∃ A c, v = .slice A fs.length c ∧ fs.length ≤ c ∧ c ≤ maxLen := by
 rcases h.2 with ⟨rfl, h0⟩ | ⟨g, cap, cur, rfl, _, _, h4, h5, _⟩
 ·exact ⟨none, 0, by rw [h0], by omega, by unfold maxLen; omega⟩
 ·exact ⟨_, cap, rfl, h4, h5⟩
theorem text_product (s : ByteArray) (k g : Nat) (bad neg : Bool) (w : World) (hk : Bk w g 244 (tx s k bad)) (hs : s.size ≤ 1000000) (hks : k ≤ s.size) :
    Calls Tryz.prog 265 #[.pointer (some ⟨g, 0, none⟩), .bool neg] w fun e w' => ∃ v, e = .returned (.agg #[.bool (productD s k bad neg).1.neg, v]) ∧ OwnF w' w.heap.size v (productD s k bad neg).1.fs ∧ Bk w' g 244 (tx s (productD s k bad neg).2.1 (productD s k bad neg).2.2) ∧ w.grownBy w' (some g) := by
 obtain ⟨E, hE⟩ : ∃ E, productD s k bad neg = E := ⟨_, rfl⟩
 rw [hE]
 have HE := Hd.mk hE
 clear hE
 unfold productD at HE
 dsimp only at HE
 have hsm : s.size ≤ maxLen := by unfold maxLen; omega
 have CF := Hd.mk (fun W (hW : Bk W g 244 (tx s k bad)) => text_factor s k g bad W hW hsm hks)
 have hX2 := factorD_le (bad := bad) hks
 obtain ⟨X, hX⟩ : ∃ X, factorD s k bad = X := ⟨_, rfl⟩
 rw [hX] at CF HE hX2
 obtain ⟨F1, k1, bad1⟩ := X
 dsimp only [FacD.v] at CF HE hX2
 have HX2 := Hd.mk hX2
 have HK := Hd.mk hk
 have hgl := hk.lt
 clear hX hX2 hk
 go_enter Tryz.func265, Tryz.ntmps265
 go_upto_region 1 with (fail)
 refine wp_gen (fun W => Bk W g 244 (tx s k bad) ∧ Bk W w.heap.size 251 #[.bool false, .slice none 0 0] ∧ w.grownBy W (some g)) ⟨HK.out.al _, Bk.new_ _ _ _, gb_of ((Below.refl _ _).alloc (Nat.le_refl _) _)⟩ ?_
 intro W hW
 have hne : some w.heap.size ≠ some g := fun e => by injection e with e; omega
 obtain ⟨gr, hgr⟩ : ∃ gr, w.heap.size = gr := ⟨_, rfl⟩
 have HGR : Hd (w.heap.size ≤ gr ∧ some gr ≠ some g) := ⟨by omega, by rw [← hgr]; exact hne⟩
 rw [hgr] at hW ⊢
 have HB := Hd.mk hW.out.1
 have HR := Hd.mk hW.out.2.1
 have HG := Hd.mk hW.out.2.2
 have HGE := Hd.mk hgr
 clear hW hne hgl HK hgr
 go_wp2_with fail
 refine (CF.out _ HB.out).mono ?_
 rintro e w2 ⟨rfl, hb2, hg2⟩
 have HB2 := Hd.mk hb2
 have HR2 := Hd.mk (HR.out.grown hg2 HGR.out.2)
 have HG2 := Hd.mk (gb_trans HG.out hg2)
 clear hb2 hg2 HB HR HG CF
 go_upto_region 2 with (fail)
 obtain ⟨Y, hY⟩ : ∃ Y, facsF s (s.size + 1) [F1] k1 bad1 = Y := ⟨_, rfl⟩
 have HY := Hd.mk hY
 rw [hY] at HE
 clear hY
 have HO2 := OwnF.one (base := gr) F1 (by have := HG2.out.size; have := HGE.out; omega : gr ≤ w2.heap.size)
 dsimp only [FacD.v] at HO2
 refine wp_gen (fun W => Bk W g 244 (tx s k1 bad1) ∧ Bk W gr 251 #[.bool false, .slice none 0 0] ∧ w.grownBy W (some g) ∧ OwnF W gr (.slice (some ⟨w2.heap.size, 0, none⟩) 1 1) [F1] ∧ Bk W (w2.heap.size + 1) 251 #[.bool neg, .slice (some ⟨w2.heap.size, 0, none⟩) 1 1]) ⟨(HB2.out.al _).al _, (HR2.out.al _).al _, gb_trans HG2.out (gb_of (((Below.refl _ _).alloc (Nat.le_refl _) _).alloc (by simp) _)), HO2.up ((Below.refl _ _).alloc (Nat.le_refl _) _), Bk.new2 _ _ _ _⟩ ?_
 intro W3 hW
 have hgp : gr < w2.heap.size + 1 ∧ g < w2.heap.size + 1 := ⟨Nat.lt_succ_of_lt HR2.out.lt, Nat.lt_succ_of_lt HB2.out.lt⟩
 generalize w2.heap.size + 1 = gp at hW hgp ⊢
 generalize w2.heap.size = gf at hW ⊢
 have HGP : Hd (gr < gp ∧ some gp ≠ some g ∧ some gr ≠ some gp) := ⟨hgp.1, fun e => by injection e with e; omega, fun e => by injection e with e; omega⟩
 have HB3 := Hd.mk hW.out.1
 have HR3 := Hd.mk hW.out.2.1
 have HG3 := Hd.mk hW.out.2.2.1
 have HO3 := Hd.mk hW.out.2.2.2.1
 have HP3 := Hd.mk hW.out.2.2.2.2
 clear hW hgp HB2 HR2 HG2 HO2
 go_loopg [11] (s.size + 1) (fun n _ wr => ∃ (v : Value) (fs : List FacD) (kk : Nat) (bb : Bool), kk ≤ s.size ∧ Hd (Bk wr g 244 (tx s kk bb)) ∧ Hd (Bk wr gr 251 #[.bool false, .slice none 0 0]) ∧ Hd (w.grownBy wr (some g)) ∧ Hd (OwnF wr gr v fs) ∧ Hd (Bk wr gp 251 #[.bool neg, v]) ∧ Hd (facsF s n fs kk bb = Y) ∧ Hd (fs.length + (s.size - kk) ≤ s.size + 1) ∧ Hd (s.size - kk < n))
 case atStart => exact ⟨_, [F1], k1, bad1, HX2.out.2, HB3, HR3, HG3, HO3, HP3, HY, ⟨by simp; omega⟩, ⟨by omega⟩⟩
 case round =>
  clear HB3 HR3 HG3 HO3 HP3 HY
  obtain ⟨v, fs, kk, bb, hkk, HB, HR, HG, HO, HP, HY, HL, HN⟩ := hrel
  obtain ⟨n, rfl⟩ : ∃ n, gk = n + 1 := ⟨gk - 1, by have := HN.out; omega⟩
  obtain ⟨Av, cv, rfl, hcv, hcm⟩ := HO.out.reads
  obtain ⟨q0, q1, q2⟩ := HB.out.three
  cases bb
  ·have CE := Hd.mk (text_eat s kk g false 42 wr HB.out hsm hkk)
   have h3 := eatK_le (c := 42) hkk
   cases he : eatB s kk 42
   ·have HT : Hd (Y = (fs, eatK s kk 42, false)) := ⟨by rw [← HY.out]; unfold facsF; rw [he]; rfl⟩
    rw [he] at CE
    clear he
    go_wp2_with fail
    refine CE.out.mono ?_
    rintro e w5 ⟨rfl, hb5, hg5⟩
    have HB5 := Hd.mk hb5
    have HR5 := Hd.mk (HR.out.grown hg5 HGR.out.2)
    have HP5 := Hd.mk (HP.out.grown hg5 HGP.out.2.1)
    have HO5 := Hd.mk (HO.out.grown hg5 HB.out (by decide))
    have HG5 := Hd.mk (gb_trans HG.out hg5)
    clear hb5 hg5 CE q0 q1 q2 HB HR HP HO HG
    obtain ⟨p0, p1⟩ := HP5.out.two'
    obtain ⟨r0, r1⟩ := HR5.out.two'
    have fz := fun i => HR5.out.froz i
    go_wp2_with fail
    refine bodyPost_ret (res_pro rfl _ _ gr _ rfl ((HR5.out.set_ 0 _).set_ 1 _) rfl) rfl ?_
    rw [HE.out.symm, HT.out]
    have hset : w5.grownBy ((w5.setCell ⟨gr, 0, none⟩ (.bool neg)).setCell ⟨gr, 1, none⟩ (.slice Av fs.length cv)) (some gr) := (set_grown w5 ⟨gr, 0, none⟩ _).set 1 _
    exact ⟨_, rfl, by rw [HGE.out]; exact HO5.out.grown hset HR5.out (by decide), HB5.out.grown hset (fun e => HGR.out.2 e.symm), gb_set (gb_set HG5.out HGR.out.1 _ _) HGR.out.1 _ _⟩
   ·obtain ⟨X, hX⟩ : ∃ X, factorD s (eatK s kk 42) false = X := ⟨_, rfl⟩
    have HT : Hd (facsF s n (fs ++ [X.1]) X.2.1 X.2.2 = Y) := ⟨by rw [← HY.out]; conv => rhs; unfold facsF; rw [if_neg (by simp), if_pos he, hX]⟩
    have hgt := eatK_gt he
    have hX2 := factorD_le (bad := false) h3
    rw [he] at CE
    obtain ⟨kq, hkq⟩ : ∃ kq, eatK s kk 42 = kq := ⟨_, rfl⟩
    rw [hkq] at CE hX h3 hgt hX2
    rw [hX] at hX2
    have CF := Hd.mk (fun W (hW : Bk W g 244 (tx s kq false)) => text_factor s kq g false W hW hsm h3)
    rw [hX] at CF
    obtain ⟨F2, k2, bad2⟩ := X
    dsimp only [FacD.v] at CF HT hX2
    have HXK := Hd.mk hX2
    clear he hkq hX hX2
    go_wp2_with fail
    refine CE.out.mono ?_
    rintro e w5 ⟨rfl, hb5, hg5⟩
    have HB5 := Hd.mk hb5
    have HR5 := Hd.mk (HR.out.grown hg5 HGR.out.2)
    have HP5 := Hd.mk (HP.out.grown hg5 HGP.out.2.1)
    have HO5 := Hd.mk (HO.out.grown hg5 HB.out (by decide))
    have HG5 := Hd.mk (gb_trans HG.out hg5)
    clear hb5 hg5 CE q0 q1 q2 HB HR HP HO HG
    go_wp2_with fail
    have HS5 : Hd (w5.drew.cell? ⟨gp, 1, none⟩ = some (.slice Av fs.length cv)) := ⟨HP5.out.two'.2⟩
    refine wp_region_head 3 6 (fun W => W.cell? ⟨gp, 1, none⟩ = some (.slice Av fs.length cv)) (by kernel_rfl) (by kernel_rfl) (fun c a d v w h => by cases d <;> exact h) HS5.out ?_
    simp only [List.take_succ_cons, List.take_zero, List.drop_succ_cons, List.drop_zero]
    iterate 3 (refine ⟨?_, Or.inl ⟨by rfl, ?_⟩, ?_⟩; rotate_left; (intro W hW; go_simp; try with_reducible rfl); simp only [Act.put, List.setIfInBounds_toArray, List.set_cons_zero, List.set_cons_succ])
    refine wpHead_nil ?_
    change wpTail _ _ _ _ _ _ _ _ _
    refine wpTail_step (fun K hK => ?_)
    go_simp
    refine (CF.out _ HB5.out.d1).mono ?_
    rintro e w6 ⟨rfl, hb6, hg6⟩
    have HB6 := Hd.mk hb6
    have hg56 := gb_trans (gb_dn (gb_of (Below.refl w5.heap.size w5)) 1) hg6
    have HR6 := Hd.mk (HR5.out.grown hg56 HGR.out.2)
    have HP6 := Hd.mk (HP5.out.grown hg56 HGP.out.2.1)
    have HO6 := Hd.mk (HO5.out.grown hg56 HB5.out (by decide))
    have HG6 := Hd.mk (gb_trans HG5.out hg56)
    refine hK _ _ (fun _ => HP6.out.two'.2) ?_
    clear hK K hb6 hg6 hg56 HB5 HR5 HP5 HO5 HG5 HS5 CF
    refine wpTail_step (fun K hK => ?_)
    go_simp
    refine hK _ _ (fun _ => cell_up HP6.out.two'.2 ((Below.refl _ _).alloc (Nat.le_refl _) _)) ?_
    clear hK K
    have hbg : gr ≤ w6.heap.size := by have := HG6.out.size; have := HGE.out; omega
    have HO7 := Hd.mk (HO6.out.up ((Below.refl w6.heap.size w6).alloc (Nat.le_refl _) (.cells #[.int .i64 F2.var, .string F2.up, .string F2.down] 292)))
    have HP7 := Hd.mk (HP6.out.al (.cells #[.int .i64 F2.var, .string F2.up, .string F2.down] 292))
    have HR7 := Hd.mk (HR6.out.al (.cells #[.int .i64 F2.var, .string F2.up, .string F2.down] 292))
    have HB7 := Hd.mk (HB6.out.al (.cells #[.int .i64 F2.var, .string F2.up, .string F2.down] 292))
    have HG7 := Hd.mk (gb_trans HG6.out (gb_of ((Below.refl w6.heap.size w6).alloc (Nat.le_refl _) (.cells #[.int .i64 F2.var, .string F2.up, .string F2.down] 292))))
    have RN := Hd.mk (Rd.new_ w6 #[.int .i64 F2.var, .string F2.up, .string F2.down] 292 1 3 rfl)
    have H1 : Hd (∀ u ∈ [Value.int .i64 F2.var, .string F2.up, .string F2.down], u.oneCell' = true) := ⟨fun u hu => by
     simp only [List.mem_cons, List.not_mem_nil, or_false] at hu
     rcases hu with rfl | rfl | rfl <;> rfl⟩
    obtain ⟨i0, hi0, hz0, hz1, hz2⟩ := info_split Tryz.infFac
    have hfl : fs.length ≤ 1000001 := by have := HL.out; omega
    have HX1 : Hd (fs.length + 1 ≤ maxLen ∧ (fs.length + 1) * 40 ≤ 140737488355328) := ⟨by unfold maxLen; omega, by omega⟩
    refine wpTail_step (fun K hK => ?_)
    refine step_append_rdN _ rfl _ _ 249 rfl gr 292 i0 _ 3 40 Tryz.slFac hi0 hz0 hz1 hz2 rfl (by decide) _ fs.length (cellsF fs) rfl HO7.out _ _ 1 1 _ rfl RN.out H1.out HX1.out.1 HX1.out.2 (by simp; omega) ?_
    intro v' w8 ho8 hg8 hat8
    have HO8 : Hd (OwnF w8 gr v' (fs ++ [F2])) := ⟨by unfold OwnF; rw [cellsF_app, List.length_append]; exact ho8⟩
    have HB8 := Hd.mk (HB7.out.grown hg8 (HO7.out.ne HB7.out (by decide)))
    have HR8 := Hd.mk (HR7.out.grown hg8 (HO7.out.ne HR7.out (by decide)))
    have HP8 := Hd.mk (HP7.out.grown hg8 (HO7.out.ne HP7.out (by decide)))
    have HG8 := Hd.mk (gb_new HG7.out hg8 (fun b hb => by rw [HGE.out]; exact (own_bk HO7.out hb).2))
    refine hK _ _ (fun _ => HP8.out.two'.2) ?_
    obtain ⟨p0, p1⟩ := HP8.out.two'
    have fz := fun i => HP8.out.froz i
    clear hK K ho8 hg8 hat8 HB6 HR6 HP6 HO6 HG6 HB7 HR7 HP7 HO7 HG7 RN H1 hi0 hz0 hz1 hz2 HX1 hbg
    have hNl : (fs ++ [F2]).length = fs.length + 1 := by simp
    obtain ⟨N, hN⟩ : ∃ N, fs ++ [F2] = N := ⟨_, rfl⟩
    rw [hN] at HO8 HT hNl
    have HNl := Hd.mk hNl
    clear hN hNl
    obtain ⟨A8, c8, rfl, hc8, -⟩ := HO8.out.reads
    refine wpTail_step (fun K hK => ?_)
    go_simp
    refine hK _ _ (fun h => absurd h (by decide)) ?_
    clear hK K
    refine wpTail_step (fun K hK => ?_)
    go_simp
    refine hK _ _ (fun h => absurd h (by decide)) ?_
    clear hK K p0 p1 fz
    refine wpTail_nil ?_
    have hset : w8.grownBy (w8.setCell ⟨gp, 1, none⟩ (.slice A8 N.length c8)) (some gp) := set_grown w8 ⟨gp, 1, none⟩ _
    go_wp2_with fail
    go_roundg n
    case measure => omega
    case rel => exact ⟨_, N, k2, bad2, HXK.out.2, ⟨HB8.out.grown hset (fun e => HGP.out.2.1 e.symm)⟩, ⟨HR8.out.grown hset HGP.out.2.2⟩, ⟨gb_set HG8.out (by have := HGP.out.1; have := HGE.out; omega) _ _⟩, ⟨HO8.out.grown hset HP8.out (by decide)⟩, ⟨HP8.out.set_ 1 _⟩, HT, ⟨by have := HL.out; have := HNl.out; have := HXK.out; omega⟩, ⟨by have := HN.out; have := HXK.out; omega⟩⟩
  ·have HT : Hd (Y = (fs, kk, true)) := ⟨by rw [← HY.out]; rfl⟩
   have HB5 := HB
   have HR5 := HR
   have HP5 := HP
   have HO5 := HO
   have HG5 := HG
   obtain ⟨p0, p1⟩ := HP5.out.two'
   obtain ⟨r0, r1⟩ := HR5.out.two'
   have fz := fun i => HR5.out.froz i
   go_wp2_with fail
   refine bodyPost_ret (res_pro rfl _ _ gr _ rfl ((HR5.out.set_ 0 _).set_ 1 _) rfl) rfl ?_
   rw [HE.out.symm, HT.out]
   have hset : wr.grownBy ((wr.setCell ⟨gr, 0, none⟩ (.bool neg)).setCell ⟨gr, 1, none⟩ (.slice Av fs.length cv)) (some gr) := (set_grown wr ⟨gr, 0, none⟩ _).set 1 _
   exact ⟨_, rfl, by rw [HGE.out]; exact HO5.out.grown hset HR5.out (by decide), HB5.out.grown hset (fun e => HGR.out.2 e.symm), gb_set (gb_set HG5.out HGR.out.1 _ _) HGR.out.1 _ _⟩
end Go.Proofs.YtgjkgkgieeoalaaGreat
namespace Go.Proofs.YtgjkgkgieeoalaaGreat
open Go.RowKit
theorem RSm.up {w w' : World} {A B : Option Addr} {c d : Nat} {ns : List Int} {ms : List (Int × Int × Int)} (h : RSm w A c B d ns ms) (hb : Below w.heap.size w w') : RSm w' A c B d ns ms :=
 ⟨h.n.up hb, h.m.up hb, h.nc, h.md, h.nb, h.mb⟩
theorem flat3_get : ∀ {ms : List (Int × Int × Int)} {i : Nat} {m : Int × Int × Int}, ms[i]? = some m →
    (flat3 ms)[i * 3]? = some (.int .u8 m.1) ∧ (flat3 ms)[i * 3 + 1]? = some (.int .u8 m.2.1) ∧ (flat3 ms)[i * 3 + 2]? = some (.int .u8 m.2.2)
 | [], i, m, h => by simp at h
 | x :: ms, 0, m, h => by
   simp only [List.getElem?_cons_zero, Option.some.injEq] at h
   subst h
   exact ⟨rfl, rfl, rfl⟩
 | x :: ms, i + 1, m, h => by
   have := flat3_get (ms := ms) (i := i) (m := m) (by simpa using h)
   have e : flat3 (x :: ms) = .int .u8 x.1 :: .int .u8 x.2.1 :: .int .u8 x.2.2 :: flat3 ms := rfl
   rw [e, show (i + 1) * 3 = i * 3 + 1 + 1 + 1 by omega]
   simpa using this
theorem Ints.short {M : Nat} {p : List TermD} (h : Ints M p) (hM : M < 18446744073709551616) (hl : p.length ≤ 1000000) : shortP p :=
 ⟨hl, fun s hs => by
  obtain ⟨n, e⟩ := h.int s hs
  have h1 := Nat.le_trans (mass_mem hs) h.mass
  rw [e] at h1 ⊢
  exact ofD_short n (by have : val (ofD n).num = n.natAbs := val_limbs _; omega)⟩
end Go.Proofs.YtgjkgkgieeoalaaGreat
namespace Go.Proofs.YtgjkgkgieeoalaaGreat
open Go.ChangeShapes Go.WideShapes Go.RowKit
theorem Tryz.slI8 : Tryz.prog.underlying 56 = some (.slice 142) := by kernel_rfl
theorem Tryz.slM3 : Tryz.prog.underlying 57 = some (.slice 76) := by kernel_rfl
theorem Tryz.arM3 : Tryz.prog.underlying 76 = some (.array 3 5) := by kernel_rfl
theorem Tryz.undI8 : Tryz.prog.underlying 142 = some (.int .i8) := by kernel_rfl
theorem Tryz.undU8 : Tryz.prog.underlying 5 = some (.int .u8) := by kernel_rfl
theorem Tryz.cuI8 : Tryz.prog.cellsOf 142 = 1 := by kernel_rfl
theorem Tryz.cuU8 : Tryz.prog.cellsOf 5 = 1 := by kernel_rfl
theorem Tryz.cuM3 : Tryz.prog.cellsOf 76 = 3 := by kernel_rfl
def trip (m : Int × Int × Int) : List Value := [.int .u8 m.1, .int .u8 m.2.1, .int .u8 m.2.2]
theorem flat3_app (l m : List (Int × Int × Int)) : flat3 (l ++ m) = flat3 l ++ flat3 m := by simp [flat3]
theorem flat3_len (l : List (Int × Int × Int)) : (flat3 l).length = l.length * 3 := by
 induction l with
 | nil => rfl
 | cons x l ih => rw [show flat3 (x :: l) = trip x ++ flat3 l from rfl, List.length_append, ih, List.length_cons]; show 3 + _ = _; omega
section
variable {H : Type} {enc : TypeId × Value → H} {w : World} {base : Nat} {spare : Nat → Bool} {held : Bool} {fuel : Nat} {cs : List Value} {x : DataW H × List MemPlace}
theorem rd_row {t e : TypeId} {k : IntKind} (ht : Tryz.prog.underlying t = some (.slice e)) (he : Tryz.prog.underlying e = some (.int k)) (hc1 : Tryz.prog.cellsOf e = 1)
    (h : DataW.trod enc Tryz.prog w base spare held fuel t cs = some x) : ∃ A l c, cs = [.slice A l.length c] ∧ l.length ≤ c ∧ c ≤ maxLen ∧ Rd w w.heap.size 1 A l.length (ints k l) ∧ ∀ n ∈ l, (Lit.int k n).wf = true := by
 rcases open_ints ht he hc1 h with ⟨e, _⟩ | ⟨a, len, cap, zs, e, _, hl, hm, hz, _, hc, hw⟩
 ·exact ⟨none, [], 0, e, Nat.le_refl _, by unfold maxLen; omega, Rd.nil, fun n hn => by cases hn⟩
 ·have hle : len ≤ zs.length := by rw [hz]; split <;> omega
  have hlen : (zs.take len).length = len := by rw [List.length_take]; omega
  refine ⟨some a, zs.take len, cap, by rw [hlen]; exact e, by rw [hlen]; exact hl, hm, ⟨by rw [ints_len, Nat.mul_one], fun hn => ⟨a, rfl, ?_, fun j u hu => ?_⟩⟩, fun n hn => hw n (List.mem_of_mem_take hn)⟩
  ·have := World.block_lt_of_cell? w _ (hc 0 (by omega))
   rwa [add_block] at this
  ·have hj : j < len := by
     have : j < (ints k (zs.take len)).length := by
      rcases Nat.lt_or_ge j (ints k (zs.take len)).length with h1 | h1
      ·exact h1
      ·rw [List.getElem?_eq_none h1] at hu; cases hu
     rwa [ints_len, hlen] at this
   rw [ints_get _ _ _ (by rw [hlen]; exact hj)] at hu
   injection hu with hu
   rw [← hu, hc j (by omega)]
   simp [List.getD_eq_getElem?_getD, hj]
theorem rd_m3 (h : DataW.trod enc Tryz.prog w base spare held fuel 76 cs = some x) : ∃ m : Int × Int × Int, cs = trip m ∧ (0 ≤ m.1 ∧ m.1 ≤ 255) ∧ (0 ≤ m.2.1 ∧ m.2.1 ≤ 255) ∧ (0 ≤ m.2.2 ∧ m.2.2 ≤ 255) := by
 obtain ⟨xs, n, _, _, hl, hx, hi⟩ := DataW.trod_array Tryz.arM3 h
 rw [Tryz.cuM3] at hl
 have get : ∀ i, i < 3 → ∃ k : Int, (cs.drop i).take 1 = [.int .u8 k] ∧ 0 ≤ k ∧ k ≤ 255 := fun i h4 => by
  have h1 := hi i h4
  rw [Tryz.cuU8, Nat.mul_one, List.getElem?_eq_getElem (by omega)] at h1
  obtain ⟨k, e, _, hw⟩ := DataW.trod_int Tryz.undU8 h1
  exact ⟨k, e, bounds_u8 hw⟩
 match cs, hl with
 | [v0, v1, v2], _ =>
   obtain ⟨a0, e0, b0⟩ := get 0 (by omega)
   obtain ⟨a1, e1, b1⟩ := get 1 (by omega)
   obtain ⟨a2, e2, b2⟩ := get 2 (by omega)
   simp only [List.drop_zero, List.drop_succ_cons, List.take_succ_cons, List.take_zero, List.cons.injEq, and_true] at e0 e1 e2
   subst e0 e1 e2
   exact ⟨(a0, a1, a2), rfl, b0, b1, b2⟩
theorem rows3_up {a : Addr} {T : Nat → Int × Int × Int} : ∀ (n : Nat), (∀ i, i < n → ∀ k u, (trip (T i))[k]? = some u → w.cell? (a.add (i * 3 + k)) = some u) →
    ∀ j u, (flat3 ((List.range n).map T))[j]? = some u → w.cell? (a.add j) = some u
 | 0, _ => fun j u h => by simp [flat3] at h
 | n + 1, h => by
   have h2 := rows3_up n (fun i hi => h i (by omega))
   have h4 := h n (by omega)
   have hlen := flat3_len ((List.range n).map T)
   rw [List.length_map, List.length_range] at hlen
   rw [List.range_succ, List.map_append, flat3_app]
   intro j u hu
   rcases Nat.lt_or_ge j (n * 3) with hj | hj
   ·rw [List.getElem?_append_left (by omega)] at hu
    exact h2 j u hu
   ·rw [List.getElem?_append_right (by omega), hlen] at hu
    have := h4 (j - n * 3) u hu
    rwa [show n * 3 + (j - n * 3) = j by omega] at this
theorem rd_m3s (h : DataW.trod enc Tryz.prog w base spare held fuel 57 cs = some x) :
    ∃ B ms d, cs = [.slice B ms.length d] ∧ ms.length ≤ d ∧ Rd w w.heap.size 3 B ms.length (flat3 ms) ∧ ∀ m ∈ ms, (0 ≤ m.1 ∧ m.1 ≤ 255) ∧ (0 ≤ m.2.1 ∧ m.2.1 ≤ 255) ∧ (0 ≤ m.2.2 ∧ m.2.2 ≤ 255) := by
 rcases Deep.open_slice Tryz.slM3 h with ⟨e, _⟩ | ⟨a, len, cap, m, n, D, Pl, e, _, hl, hm, hmm, _, hx⟩
 ·exact ⟨none, [], 0, e, Nat.le_refl _, ⟨rfl, fun h => by cases h⟩, fun m hm => by cases hm⟩
 ·have hle : len ≤ m := by rw [hmm]; split <;> omega
  have hel : ∀ i, ∃ p : Int × Int × Int, i < len → (∀ k u, (trip p)[k]? = some u → w.cell? (a.add (i * 3 + k)) = some u) ∧ (0 ≤ p.1 ∧ p.1 ≤ 255) ∧ (0 ≤ p.2.1 ∧ p.2.1 ≤ 255) ∧ (0 ≤ p.2.2 ∧ p.2.2 ≤ 255) := fun i => by
   by_cases hi : i < len
   ·obtain ⟨cs', h1, h2⟩ := hx i (by omega)
    rw [Tryz.cuM3] at h1
    obtain ⟨s, rfl, hs⟩ := rd_m3 h2
    obtain ⟨_, h3, h4⟩ := World.cells?_some h1
    refine ⟨s, fun _ => ⟨fun k u hu => ?_, hs⟩⟩
    have hk : k < 3 := by
     rcases Nat.lt_or_ge k (trip s).length with h5 | h5
     ·exact h5
     ·rw [List.getElem?_eq_none h5] at hu; cases hu
    rw [← add_add, h4 k hk]; exact hu
   ·exact ⟨(0, 0, 0), fun h => absurd h hi⟩
  obtain ⟨F, hF⟩ := Classical.axiomOfChoice hel
  have h2 := rows3_up (w := w) (a := a) (T := F) len (fun i hi => (hF i hi).1)
  have hlen : ((List.range len).map F).length = len := by simp
  refine ⟨some a, (List.range len).map F, cap, by rw [hlen]; exact e, by rw [hlen]; exact hl, ⟨flat3_len _, fun hn => ⟨a, rfl, ?_, h2⟩⟩, fun s hs => ?_⟩
  ·rw [hlen] at hn
   have := World.block_lt_of_cell? w _ ((hF 0 hn).1 0 _ rfl)
   rwa [add_block] at this
  ·obtain ⟨i, hi, rfl⟩ := List.mem_map.1 hs
   exact (hF i (List.mem_range.1 hi)).2
end
theorem okWide_array {P : Program} {w : World} {r : Reach} {b0 n : Nat} {t e : TypeId} {v : Value} (ht : P.underlying t = some (.array n e)) (h : Value.okWide P w r b0 t v) : ∃ cs : Array Value, v = .agg cs ∧ cs.size = P.cellsOf t := by
 simp only [Value.okWide, ht] at h
 obtain ⟨cs, h1, h2, _⟩ := h
 exact ⟨cs, h1, h2⟩
theorem Sm.take {l : List TermD} (h : Sm l) (k : Nat) : Sm (l.take k) := by
 refine ⟨⟨fun t ht => h.ints.int t (List.mem_of_mem_take ht), fun t ht => h.ints.good t (List.mem_of_mem_take ht), ?_⟩, fun t ht => h.low t (List.mem_of_mem_take ht), by rw [List.length_take]; have := h.len; omega⟩
 have h1 := mass_app (l.take k) (l.drop k)
 rw [List.take_append_drop] at h1
 have := h.ints.mass
 omega
end Go.Proofs.YtgjkgkgieeoalaaGreat
