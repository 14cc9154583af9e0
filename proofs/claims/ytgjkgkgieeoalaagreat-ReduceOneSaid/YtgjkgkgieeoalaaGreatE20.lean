/- Parts of the proof, joined: each theorem says what it shows. -/
import Derived.Test.YtgjkgkgieeoalaaGreatE01
import Derived.Test.YtgjkgkgieeoalaaGreatE19
import Derived.Test.YtgjkgkgieeoalaaGreatE18
import Derived.Test.YtgjkgkgieeoalaaGreatE17
import Derived.Test.YtgjkgkgieeoalaaGreatE16
import Derived.Deep.Slices
import Derived.Deep.Strs
import Derived.OpenShut
import Derived.ChangeSlices
import Derived.ChangeSame
set_option linter.unusedVariables false
set_option linter.unusedSimpArgs false
set_option maxHeartbeats 24000000
set_option maxRecDepth 100000
namespace Go.Proofs.YtgjkgkgieeoalaaGreat
open Go.RowKit
def putW (o : Int) (t : TermD) : Bool → List TermD → List TermD → Int × List TermD
 | d, acc, [] => (0, if d = true then acc else acc ++ [t])
 | d, acc, p :: r => if monCmp o p.m t.m = 0 then (if (addD p.c t.c).1 ≠ 0 then ((addD p.c t.c).1, []) else putW o t true (acc ++ [⟨(addD p.c t.c).2, t.m⟩]) r)
   else if monCmp o p.m t.m < 0 ∧ d = false then putW o t true (acc ++ [t, p]) r else putW o t d (acc ++ [p]) r
theorem putW_done {o : Int} {t : TermD} : ∀ {r acc : List TermD}, (∀ p ∈ r, monCmp o p.m t.m ≠ 0) → putW o t true acc r = (0, acc ++ r)
 | [], acc, _ => by simp [putW]
 | p :: r, acc, h => by
   unfold putW
   rw [if_neg (h p (by simp)), if_neg (by simp), putW_done (fun q hq => h q (by simp [hq]))]
   simp
theorem putW_putD {o : Int} {t : TermD} (ht : monMay t.m = true) : ∀ {r acc : List TermD}, Sta o r → putW o t false acc r = appD acc (putD o r t)
 | [], acc, _ => by simp [putW, putD, hasM, insD, appD]
 | p :: r, acc, h => by
   obtain ⟨ho, hg, hf⟩ := h
   obtain ⟨f1, f2⟩ := List.pairwise_cons.1 hf
   have hp := hg p (by simp)
   have hr : Sta o r := ⟨ho, fun s hs => hg s (by simp [hs]), f2⟩
   unfold putW
   by_cases h0 : monCmp o p.m t.m = 0
   ·have em : p.m = t.m := (monCmp_zero ho hp ht).1 h0
    have far : ∀ q ∈ r, q.m ≠ t.m := fun q hq e => by
     have := f1 q hq
     rw [em, e, (monCmp_zero ho ht ht).2 rfl] at this
     omega
    have hn : ∀ q ∈ r, monCmp o q.m t.m ≠ 0 := fun q hq e => far q hq ((monCmp_zero ho (hg q (by simp [hq])) ht).1 e)
    have hh : hasM (p :: r) t.m = true := hasM_iff.2 ⟨p, by simp, em⟩
    have hget : getM (p :: r) t.m = p.c := by unfold getM; simp [em]
    rw [if_pos h0]
    unfold putD
    rw [if_pos hh, hget]
    by_cases he : (addD p.c t.c).1 = 0
    ·rw [if_neg (by simpa using he), if_neg (by simpa using he), putW_done hn]
     have hs : setM (p :: r) t.m (addD p.c t.c).2 = ⟨(addD p.c t.c).2, t.m⟩ :: r := by
      have : setM r t.m (addD p.c t.c).2 = r := setM_far' far _
      unfold setM at this ⊢
      rw [List.map_cons, if_pos em, this]
     rw [hs]
     simp [appD]
    ·rw [if_pos (by simpa using he), if_pos (by simpa using he)]
     simp [appD, he]
   ·rw [if_neg h0]
    have em : p.m ≠ t.m := fun e => h0 ((monCmp_zero ho hp ht).2 e)
    by_cases hlt : monCmp o p.m t.m < 0
    ·have hn : ∀ q ∈ r, monCmp o q.m t.m < 0 := fun q hq => by
       have a1 := f1 q hq
       have a2 := monCmp_anti ho hp (hg q (by simp [hq]))
       exact monCmp_lt ho (hg q (by simp [hq])) hp ht (by omega) hlt
     rw [if_pos ⟨hlt, rfl⟩, putW_done (fun q hq e => by have := hn q hq; omega)]
     have hh : ¬ hasM (p :: r) t.m = true := fun h => by
      obtain ⟨q, hq, e⟩ := hasM_iff.1 h
      rcases List.mem_cons.1 hq with rfl | hq
      ·exact em e
      ·have := hn q hq
       rw [e, (monCmp_zero ho ht ht).2 rfl] at this
       omega
     unfold putD
     rw [if_neg hh]
     unfold insD
     rw [if_pos hlt]
     simp [appD]
    ·rw [if_neg (fun h => hlt h.1), putW_putD ht hr]
     have hh : hasM (p :: r) t.m = hasM r t.m := by unfold hasM; simp [em]
     have hget : getM (p :: r) t.m = getM r t.m := by unfold getM; rw [List.find?_cons, decide_eq_false em]
     have hset : ∀ c, setM (p :: r) t.m c = p :: setM r t.m c := fun c => by unfold setM; rw [List.map_cons, if_neg em]
     have hins : insD o t (p :: r) = p :: insD o t r := by conv => lhs; unfold insD
                                                           rw [if_neg hlt]
     unfold putD
     rw [hh, hget, hset, hins]
     by_cases h1 : hasM r t.m = true
     ·rw [if_pos h1, if_pos h1]
      by_cases he : (addD (getM r t.m) t.c).1 = 0
      ·rw [if_neg (by simpa using he), if_neg (by simpa using he)]; simp [appD]
      ·rw [if_pos (by simpa using he), if_pos (by simpa using he)]; simp [appD, he]
     ·rw [if_neg h1, if_neg h1]; simp [appD]
where
 setM_far' {al : List TermD} {m : MonD} (h : ∀ p ∈ al, p.m ≠ m) (c : RatD) : setM al m c = al := by
  unfold setM
  induction al with
  | nil => rfl
  | cons p al ih => rw [List.map_cons, if_neg (h p (by simp)), ih (fun q hq => h q (by simp [hq]))]
structure Apd (b0 base B : Nat) (w0 w w' : World) (v v' : Value) (ds us : List TermD) : Prop where
 own : OwnT w' b0 base v' (ds ++ us)
 below : Below B w0 w'
 size : w.heap.size ≤ w'.heap.size
 bk : ∀ {g : Nat} {t : TypeId} {cs : Array Value}, Bk w g t cs → g < base → Bk w' g t cs
 rat : ∀ {u : Value} {r : RatD}, RRat w b0 u r → RRat w' b0 u r
 term : ∀ {u : Value} {s : TermD}, RTerm w b0 u s → RTerm w' b0 u s
theorem RTerm.grown {w w' : World} {b0 : Nat} {v : Value} {t : TermD} {row : Option Nat} (h : RTerm w b0 v t) (hg : w.grownBy w' row) (hr : ∀ g, row = some g → b0 ≤ g ∧ ∃ t cs, Bk w g t cs ∧ t ≠ 112) : RTerm w' b0 v t :=
 let ⟨A, c, B, d, e, h1, h2, h3, h4⟩ := h; ⟨A, c, B, d, e, h1, h2, h3.grown hg hr, h4.grown hg hr⟩
theorem wpList_append_T {w w0 : World} {ops : Array Oper} {rest : List Oper} {o : Oper} {a : Act} {Q : Exit → Act → World → Prop} (hgd : o.guard = none) (s x : Operand) (t t2 : TypeId)
    (ho : o.op = .call { callee := .builtin .append, args := #[s, x], argTypes := #[t, t2] }) (ht : Tryz.prog.underlying t = some (.slice 68)) (ht2 : Tryz.prog.underlying t2 = some (.slice 68))
    {b0 base B : Nat} {v : Value} {ds us : List TermD} {A : Option Addr} {m c : Nat} (hs : a.eval s = v) (hx : a.eval x = .slice A m c) (hm : m = us.length) (hO : OwnT w b0 base v ds) (hR : RPol w b0 A us)
    (hb : b0 ≤ base) (hlen : ds.length + us.length ≤ 1000000) (hB : Below B w0 w) (hBb : B ≤ base) (hbase : base ≤ w.heap.size)
    (h : ∀ v' w', Apd b0 base B w0 w w' v v' ds us → wpList Tryz.prog ops Q rest (a.put o.dst v') w') : wpList Tryz.prog ops Q (o :: rest) a w := by
 subst hm
 obtain ⟨i0, hi0, hz0, hz1, hz2⟩ := info_split Tryz.infTerm
 obtain ⟨cs, o1, o2⟩ := hO
 obtain ⟨ds', r1, r2⟩ := hR
 refine wpList_append_rd2 w hgd s x t t2 ho base 68 i0 _ 7 88 ht ht2 hi0 hz0 hz1 hz2 rfl (by decide) v ds.length cs hs o1 _ A us.length c ds' hx r1 r2.one (by unfold maxLen; omega) (by omega) hbase ?_
 intro v' w' h1 hg _
 have hr := own_row_ok o1 hb (by decide)
 refine h v' w' ⟨OwnT.app o1 o2 r2 hb hg h1, hB.grown hg (ah hBb hbase) (fun k hk => ah hBb (own_bk o1 hk).2), hg.size, fun hk hlt => hk.grown hg (fun e => ?_), fun hr' => hr'.grown hg hr, fun hr' => hr'.grown hg hr⟩
 have := (own_bk o1 e.symm).2
 omega
theorem step_append_T {w w0 : World} {ops : Array Oper} {o : Oper} {a : Act} {K : Act → World → Prop} {Q : Exit → Act → World → Prop} {E : Prop} (hgd : o.guard = none) (s x : Operand) (t : TypeId)
    (ho : o.op = .call { callee := .builtin .append, args := #[s, x], argTypes := #[t, t] }) (ht : Tryz.prog.underlying t = some (.slice 68))
    {b0 base B : Nat} {v : Value} {ds us : List TermD} {A : Option Addr} {m c : Nat} (hs : a.eval s = v) (hx : a.eval x = .slice A m c) (hm : m = us.length) (hO : OwnT w b0 base v ds) (hR : RPol w b0 A us)
    (hb : b0 ≤ base) (hlen : ds.length + us.length ≤ 1000000) (hB : Below B w0 w) (hBb : B ≤ base) (hbase : base ≤ w.heap.size)
    (h : ∀ v' w', Apd b0 base B w0 w w' v v' ds us → K (a.put o.dst v') w') : if Region.wanted o (yielded ops a.tmps) = true then Oper.wp Tryz.prog o a w K Q else E := by
 subst hm
 obtain ⟨i0, hi0, hz0, hz1, hz2⟩ := info_split Tryz.infTerm
 obtain ⟨cs, o1, o2⟩ := hO
 obtain ⟨ds', r1, r2⟩ := hR
 refine step_append_rdN w hgd s x t ho base 68 i0 _ 7 88 ht hi0 hz0 hz1 hz2 rfl (by decide) v ds.length cs hs o1 _ A us.length c ds' hx r1 r2.one (by unfold maxLen; omega) (by omega) hbase ?_
 intro v' w' h1 hg _
 have hr := own_row_ok o1 hb (by decide)
 refine h v' w' ⟨OwnT.app o1 o2 r2 hb hg h1, hB.grown hg (ah hBb hbase) (fun k hk => ah hBb (own_bk o1 hk).2), hg.size, fun hk hlt => hk.grown hg (fun e => ?_), fun hr' => hr'.grown hg hr, fun hr' => hr'.grown hg hr⟩
 have := (own_bk o1 e.symm).2
 omega
theorem rterm_of {w : World} {b0 : Nat} {r : RatD} {A B : Option Addr} {c d : Nat} (h : RRat w b0 (.agg #[.bool r.neg, .slice A r.num.length c, .slice B r.den.length d]) r) (m : MonD) :
    RTerm w b0 (.agg #[.bool r.neg, .slice A r.num.length c, .slice B r.den.length d, .int .i64 m.x0, .int .i64 m.x1, .int .i64 m.x2, .int .i64 m.x3]) ⟨r, m⟩ := by
 obtain ⟨x1, x2, x3, x4, e, y1, y2, y3, y4⟩ := h
 simp only [Value.agg.injEq, Array.mk.injEq, List.cons.injEq, Value.slice.injEq, true_and, and_true] at e
 obtain ⟨⟨rfl, rfl⟩, rfl, rfl⟩ := e
 exact ⟨_, _, _, _, rfl, y1, y2, y3, y4⟩
theorem at_world {B : Nat} {w0 w : World} {b0 : Nat} {v : Value} {r : RatD} (_ : Below B w0 w) (h : RRat w b0 v r) : RRat w b0 v r := h
theorem rpol_one {w : World} {b0 : Nat} {t : TermD} {A B : Option Addr} {c d : Nat} (h : RTerm w b0 (.agg #[.bool t.c.neg, .slice A t.c.num.length c, .slice B t.c.den.length d, .int .i64 t.m.x0, .int .i64 t.m.x1, .int .i64 t.m.x2, .int .i64 t.m.x3]) t) (ty : TypeId) :
    RPol (w.alloc (.cells #[.bool t.c.neg, .slice A t.c.num.length c, .slice B t.c.den.length d, .int .i64 t.m.x0, .int .i64 t.m.x1, .int .i64 t.m.x2, .int .i64 t.m.x3] ty)) b0 (some ⟨w.heap.size, 0, none⟩) [t] := by
 have hb : Below w.heap.size w (w.alloc (.cells #[.bool t.c.neg, .slice A t.c.num.length c, .slice B t.c.den.length d, .int .i64 t.m.x0, .int .i64 t.m.x1, .int .i64 t.m.x2, .int .i64 t.m.x3] ty)) := (ag _ _).alloc (ae _) _
 obtain ⟨x1, x2, x3, x4, e, y1, y2, y3, y4⟩ := h
 simp only [Value.agg.injEq, Array.mk.injEq, List.cons.injEq, Value.slice.injEq, true_and, and_true] at e
 obtain ⟨⟨rfl, rfl⟩, rfl, rfl⟩ := e
 have hr := Rd.new_ w #[.bool t.c.neg, .slice A t.c.num.length c, .slice B t.c.den.length d, .int .i64 t.m.x0, .int .i64 t.m.x1, .int .i64 t.m.x2, .int .i64 t.m.x3] ty 1 7 rfl
 refine ⟨_, hr.more (by simp), ?_⟩
 have := TCs.cons (w := w.alloc (.cells #[.bool t.c.neg, .slice A t.c.num.length c, .slice B t.c.den.length d, .int .i64 t.m.x0, .int .i64 t.m.x1, .int .i64 t.m.x2, .int .i64 t.m.x3] ty)) (b0 := b0) (t := t) ⟨A, c, B, d, rfl, y1, y2, y3.up hb, y4.up hb⟩ .nil
 simpa using this
def TermD.v (t : TermD) (A : Option Addr) (c : Nat) (B : Option Addr) (d : Nat) : Array Value := #[.bool t.c.neg, .slice A t.c.num.length c, .slice B t.c.den.length d, .int .i64 t.m.x0, .int .i64 t.m.x1, .int .i64 t.m.x2, .int .i64 t.m.x3]
theorem ownT_lit (w : World) (b0 base : Nat) (hb : base ≤ w.heap.size) : OwnT (w.alloc (.cells #[] 68)) b0 base (.slice (some ⟨w.heap.size, 0, none⟩) 0 0) [] :=
 ⟨[], World.ownsRow_lit (e := 68) (size := 7) w #[] 0 hb (by unfold maxLen; omega) rfl, .nil⟩
theorem rpol_put (b0 : Nat) (order : Int) (A : Option Addr) (c : Nat) (al : List TermD) (v : Value) (t : TermD) (w : World) (hb0 : b0 ≤ w.heap.size) (h : RPol w b0 A al) (hc : al.length ≤ c) (h9 : al.length ≤ 100000) (hs : shortP al) (ht : RTerm w b0 v t) (hts : t.c.short) (hm : monMay t.m = true) (hst : Sta order al) :
    Calls Tryz.prog 159 #[.int .i64 order, .slice A al.length c, v] w fun e w' => ∃ A' c', e = .returned (.tuple #[.slice A' (putD order al t).2.length c', .int .i64 (putD order al t).1]) ∧
     (putD order al t).2.length ≤ c' ∧ RPol w' b0 A' (putD order al t).2 ∧ Below w.heap.size w w' := by
 have HP := aa h
 have HS := aa hs
 have HB0 := aa hb0
 have HT := aa ht
 have HTS := aa hts
 have HW : Hd (putW order t false [] al = putD order al t) := ⟨by
  rw [putW_putD hm hst]
  unfold appD
  by_cases he : (putD order al t).1 = 0
  ·rw [if_neg (by simpa using he)]; simp; exact Prod.ext he.symm rfl
  ·rw [if_pos (by simpa using he)]
   have : (putD order al t).2 = [] := by
    revert he
    unfold putD
    split
    ·split
     ·intro _; rfl
     ·intro h; exact absurd rfl h
    ·intro h; exact absurd rfl h
   exact Prod.ext rfl this.symm⟩
 obtain ⟨E, hE⟩ : ∃ E, putD order al t = E := ⟨_, rfl⟩
 rw [hE] at HW ⊢
 clear h hs hb0 hts hm hst hE
 obtain ⟨TA, tc, TB, td, rfl, _, _, _, _⟩ := ht
 go_enter Tryz.func159, Tryz.ntmps159
 go_upto_region 3 with (fail)
 refine wp_gen (fun W => Below w.heap.size w W ∧ Bk W w.heap.size 68 (t.v TA tc TB td) ∧ OwnT W b0 (w.heap.size + 1) (.slice (some ⟨w.heap.size + 1, 0, none⟩) 0 0) [] ∧ w.heap.size + 1 ≤ W.heap.size) ⟨((ag _ _).alloc (ae _) _).alloc (by simp) _, (Bk.new_ _ _ _).al _, by
  have := ownT_lit (w.alloc (.cells (t.v TA tc TB td) 68)) b0 (w.heap.size + 1) (by simp)
  simpa [TermD.v] using this, by simp⟩ ?_
 intro W0 hW
 have HB := aa hW.out.1
 have HK := aa hW.out.2.1
 have HO := aa hW.out.2.2.1
 have HZ := aa hW.out.2.2.2
 have HB01 : Hd (b0 ≤ w.heap.size + 1) := ⟨by have := HB0.out; omega⟩
 have HLT : Hd (w.heap.size < w.heap.size + 1) := ⟨Nat.lt_succ_self _⟩
 have HLE : Hd (w.heap.size ≤ w.heap.size + 1) := ⟨Nat.le_succ _⟩
 clear hW
 obtain ⟨gb, hgb⟩ : ∃ gb, w.heap.size = gb := ⟨_, rfl⟩
 obtain ⟨base, hbase⟩ : ∃ base, w.heap.size + 1 = base := ⟨_, rfl⟩
 rw [hbase] at HO HZ HB01 HLT HLE ⊢
 have HGB := aa hgb
 rw [hgb] at HK HLT HLE ⊢
 clear hbase hgb
 go_wp2_with fail
 go_loopw [8, 9, 10] (fun v8 v9 v10 wr => ∃ (i : Nat) (d : Bool) (acc : List TermD), v10 = .int .i64 i ∧ v9 = .bool d ∧ i ≤ al.length ∧ acc.length ≤ 2 * i ∧ Hd (OwnT wr b0 base v8 acc) ∧ Hd (putW order t d acc (al.drop i) = E) ∧ Hd (Below w.heap.size w wr) ∧ Hd (Bk wr gb 68 (t.v TA tc TB td)) ∧ Hd (base ≤ wr.heap.size)) (fun _ _ v _ => al.length - (intOf v).toNat)
 case atStart => exact ⟨0, false, [], rfl, rfl, by omega, by simp, HO, HW, HB, HK, HZ⟩
 case round =>
  clear HO HW HB HK HZ
  obtain ⟨i, d, acc, rfl, rfl, hi, hacc, HO, HQ, HB, HK, HZ⟩ := hrel
  obtain ⟨Av, cv, rfl, hcv, _, _⟩ := HO.out.reads
  by_cases hlt : i < al.length
  ·have i1 : (i : Int) < al.length := by omega
   have i3 : (0 : Int) ≤ i := by omega
   obtain ⟨ad, B1, c1, B2, c2, s, rfl, hab, hsi, hrt, q0, q1, q2, q3, q4, q5, q6⟩ := (HP.out.up HB.out).get hlt
   obtain ⟨k0, k1, k2, k3, k4, k5, k6⟩ := Wd.at7 q0 q1 q2 q3 q4 q5 q6
   obtain ⟨⟨t0, t1, t2⟩, t3, t4, t5, t6⟩ := HK.out.seven
   have u3 := Wd.cell t3
   have u4 := Wd.cell t4
   have u5 := Wd.cell t5
   have u6 := Wd.cell t6
   have HSS := aa (HS.out.2 s (List.mem_of_getElem? hsi.out))
   have C4 := aa (fun n : Wd wr => rmon_Cmp order s.m t.m n.w)
   have HD : Hd (al.drop i = s :: al.drop (i + 1)) := ⟨by
    have e1 : al[i] = s := by have := hsi.out; rw [ai hlt] at this; injection this
    rw [List.drop_eq_getElem_cons hlt, e1]⟩
   have HU : Hd (E = putW order t d acc (s :: al.drop (i + 1))) := ⟨by rw [← HQ.out, HD.out]⟩
   obtain ⟨r, hr⟩ : ∃ r, al.drop (i + 1) = r := ⟨_, rfl⟩
   rw [hr] at HU
   have HR := aa hr
   clear hr
   have HV : Hd (E = if monCmp order s.m t.m = 0 then (if (addD s.c t.c).1 ≠ 0 then ((addD s.c t.c).1, []) else putW order t true (acc ++ [⟨(addD s.c t.c).2, t.m⟩]) r)
    else if monCmp order s.m t.m < 0 ∧ d = false then putW order t true (acc ++ [t, s]) r else putW order t d (acc ++ [s]) r) := ⟨HU.out⟩
   generalize monCmp order s.m t.m = K at C4 HV
   clear HU HQ q0 q1 q2 q3 q4 q5 q6 t0 t1 t2 t3 t4 t5 t6
   go_wp2_with fail
   refine wp_region_wd wr (by kernel_rfl) (by kernel_rfl) (ag _ _).drew ?_
   repeat (go_big_quiet_step ((go_at_call 86; exact Wd.call (C4.out _))))
   refine wd_nil fun nq => ?_
   have HBn := aa (goes HB.out nq.lo)
   have On := aa (HO.out.up nq.lo)
   have Kn := aa (HK.out.up nq.lo)
   have Zn := aa (ah HZ.out nq.lo.size)
   have HRS := aa (hrt.out.up nq.lo)
   have HTn := aa (HT.out.up HBn.out)
   have k0 := k0 nq
   have k1 := k1 nq
   have k2 := k2 nq
   have k3 := k3 nq
   have k4 := k4 nq
   have k5 := k5 nq
   have k6 := k6 nq
   obtain ⟨⟨t0, t1, t2⟩, t3, t4, t5, t6⟩ := Kn.out.seven
   clear u3 u4 u5 u6 HB HO HK HZ hrt C4 hab
   generalize nq.w = wn at HBn On Kn Zn HRS HTn k0 k1 k2 k3 k4 k5 k6 t0 t1 t2 t3 t4 t5 t6 ⊢
   by_cases h0 : K = 0
   ·have e0 : (K == 0) = true := by rw [beq_iff_eq]; exact h0
    have HV0 : Hd (E = if (addD s.c t.c).1 ≠ 0 then ((addD s.c t.c).1, []) else putW order t true (acc ++ [⟨(addD s.c t.c).2, t.m⟩]) r) := ⟨by rw [HV.out, if_pos h0]⟩
    clear HV h0
    have CA := aa (fun W (hB : Hd (Below wn.heap.size wn W)) => rrat_Add b0 _ _ s.c t.c W (ah HB0.out (ah HBn.out.size hB.out.size)) (HRS.out.rat.up hB.out) (HTn.out.rat.up hB.out) HSS.out HTS.out)
    obtain ⟨X1, X2, hX⟩ : ∃ X1 X2, addD s.c t.c = (X1, X2) := ⟨_, _, rfl⟩
    rw [hX] at CA HV0
    have SO := aa (fun W (hB : Below wn.heap.size wn W) => af (aa hB) (af (cell_up k0 hB) (af (cell_up k1 hB) (af (cell_up k2 hB) (af (cell_up t0 hB) (af (cell_up t1 hB) (af (cell_up t2 hB) (af (cell_up t3 hB) (af (cell_up t4 hB) (af (cell_up t5 hB) (cell_up t6 hB)))))))))))
    clear hX
    go_wp2_with fail
    go_region_held3 (fun w' => Hd (Below wn.heap.size wn w') ∧ w'.cell? (ad.add (i * 7)) = some (.bool s.c.neg) ∧ w'.cell? ⟨(ad.add (i * 7)).block, (ad.add (i * 7)).off + 1, none⟩ = some (.slice B1 s.c.num.length c1) ∧ w'.cell? ⟨(ad.add (i * 7)).block, (ad.add (i * 7)).off + 2, none⟩ = some (.slice B2 s.c.den.length c2) ∧
        w'.cell? ⟨gb, 0, none⟩ = some (.bool t.c.neg) ∧ w'.cell? ⟨gb, 1, none⟩ = some (.slice TA t.c.num.length tc) ∧ w'.cell? ⟨gb, 2, none⟩ = some (.slice TB t.c.den.length td) ∧ w'.cell? ⟨gb, 3, none⟩ = some (.int .i64 t.m.x0) ∧ w'.cell? ⟨gb, 4, none⟩ = some (.int .i64 t.m.x1) ∧ w'.cell? ⟨gb, 5, none⟩ = some (.int .i64 t.m.x2) ∧ w'.cell? ⟨gb, 6, none⟩ = some (.int .i64 t.m.x3))
     (first
      | exact SO.out _ (.refl _ _)
      | exact SO.out _ (ag _ _).drew
      | exact SO.out _ ((ag _ _).drew.alloc (ae _) _)
      | exact SO.out _ ((ag _ _).alloc (ae _) _).drew
      | exact SO.out _ hB5
      | exact SO.out _ (hB5.alloc hB5.size _)
      | exact SO.out _ (((hB5.setCell (ae _) _).setCell (ae _) _).setCell (ae _) _)
      | exact SO.out _ ((((hB5.alloc hB5.size _).setCell hB5.size _).setCell hB5.size _).setCell hB5.size _))
     (first
      | (go_at_call 221; have hB := ‹Hd (Below wn.heap.size wn _) ∧ _›.1; with_reducible refine (CA.out ((wn.alloc (Obj.cells #[.bool false, .slice none 0 0, .slice none 0 0] 64)).drew) hB).mono ?_; rintro e w5 ⟨x, rfl, hx, hb⟩
         have hB5 := hB.out.trans (hb.mono hB.out.size)
         have HX := aa hx
         have hk := aa ((Bk.new_ wn 64 #[.bool false, .slice none 0 0, .slice none 0 0]).d1.up hb)
         obtain ⟨p6, p7, p8⟩ := hk.out.three
         have fz := fun i => hk.out.froz i
         obtain ⟨XA, xc, XB, xd, rfl, _, _, _, _⟩ := hx)
      | (go_at_call 221; have hB := ‹Hd (Below wn.heap.size wn _) ∧ _›.1; with_reducible refine (CA.out _ hB).mono ?_; rintro e w5 ⟨x, rfl, hx, hb⟩
         have hB5 := hB.out.trans (hb.mono hB.out.size)
         have HX := aa hx
         obtain ⟨XA, xc, XB, xd, rfl, _, _, _, _⟩ := hx))
    all_goals
     have hB6 := ‹Hd (Below wn.heap.size wn _) ∧ _›.1
     have HX6 := aa (at_world (v := .agg #[.bool X2.neg, .slice XA X2.num.length xc, .slice XB X2.den.length xd]) hB6.out (by first | exact HX.out.up ((ag _ _).alloc (ae _) _) | exact RRat.set3 HX.out hk.out (ah HB0.out HBn.out.size) _ _ _))
     by_cases hx0 : X1 = 0
     ·have e3 : (X1 != 0) = false := by rw [bne_eq_false_iff_eq]; exact hx0
      have HV2 : Hd (putW order t true (acc ++ [⟨X2, t.m⟩]) (al.drop (i + 1)) = E) := ⟨by rw [HV0.out, if_neg (by simpa using hx0), HR.out]⟩
      have xl : acc.length + ([⟨X2, t.m⟩] : List TermD).length ≤ 1000000 := by simp; omega
      have XL := aa xl
      have T1 := rpol_one (t := ⟨X2, t.m⟩) (rterm_of HX6.out t.m) 68
      dsimp only at T1
      first | rw [World.size_alloc] at T1 | rw [World.size_setCell, World.size_setCell, World.size_setCell] at T1
      obtain ⟨tn, htn⟩ : ∃ tn : TermD, tn = ⟨X2, t.m⟩ := ⟨_, rfl⟩
      rw [← htn] at T1 HV2 XL
      have HT1 := aa T1
      clear hx0 HV0 xl T1 htn
      go_wp2_with (at_builtin; refine wpList_append_T (w0 := w) (us := [tn]) rfl _ _ 25 25 rfl Tryz.slPoly Tryz.slPoly rfl rfl rfl (On.out.up (hB6.out.alloc hB6.out.size _)) HT1.out HB01.out XL.out (goes HBn.out (hB6.out.alloc hB6.out.size _)) (Nat.le_of_lt (by rw [HGB.out]; exact HLT.out)) (ah Zn.out (hB6.out.alloc hB6.out.size _).size) ?_)
      intro v' w8 AP
      have HAP := aa AP
      clear AP
      have HK8 := aa (HAP.out.bk (Kn.out.up (hB6.out.alloc hB6.out.size _)) HLT.out)
      have HZ8 := aa (ah (ah Zn.out (hB6.out.alloc hB6.out.size _).size) HAP.out.size)
      go_wp2_with fail
      go_roundw
      case measure => first | (simp [intOf]; done) | (simp [intOf]; omega)
      case rel => exact ⟨i + 1, true, _, by go_num, rfl, by omega, by simp; omega, ⟨HAP.out.own⟩, HV2, ⟨HAP.out.below⟩, HK8, HZ8⟩
     ·have e3 : (X1 != 0) = true := by rw [bne_iff_ne]; exact hx0
      have HV2 : Hd (E = (X1, [])) := ⟨by rw [HV0.out, if_pos (by simpa using hx0)]⟩
      clear HV0 hx0
      go_wp2_with fail
      go_ret2
      rw [HV2.out]
      exact ⟨none, 0, rfl, ae _, RPol.nil _ _ _, goes HBn.out hB6.out⟩
   ·have e0 : (K == 0) = false := by rw [beq_eq_false_iff_ne]; exact h0
    have HV1 : Hd (E = if K < 0 ∧ d = false then putW order t true (acc ++ [t, s]) r else putW order t d (acc ++ [s]) r) := ⟨by rw [HV.out, if_neg h0]⟩
    clear HV h0 k0 k1 k2 k3 k4 k5 k6
    have hcase : (K < 0 ∧ d = false) ∨ (((K < 0 ∧ d = true) ∨ ¬ K < 0) ∧ E = putW order t d (acc ++ [s]) r) := by
     rw [HV1.out]
     by_cases hk : K < 0
     ·cases d
      ·exact .inl ⟨hk, rfl⟩
      ·exact .inr ⟨.inl ⟨hk, rfl⟩, by rw [if_neg (by simp)]⟩
     ·exact .inr ⟨.inr hk, by rw [if_neg (fun h => hk h.1)]⟩
    have step : ∀ {dd : Bool} {acct : List TermD}, acct.length ≤ 2 * i + 1 → E = putW order t dd (acct ++ [s]) r → Hd (acct.length + [s].length ≤ 1000000 ∧ (acct ++ [s]).length ≤ 2 * (i + 1) ∧ putW order t dd (acct ++ [s]) (al.drop (i + 1)) = E) := fun h1 h2 => ⟨by simp; omega, by simp; omega, by rw [HR.out, h2]⟩
    rcases hcase with ⟨hk, rfl⟩ | ⟨hk, hv⟩
    ·have HST := step (dd := true) (acct := acc ++ [t]) (by simp; omega) (by rw [HV1.out, if_pos ⟨hk, rfl⟩]; simp)
     have xl : acc.length + [t].length ≤ 1000000 := by simp; omega
     have XL := aa xl
     clear HV1 step xl
     go_wp2_with (at_builtin; refine wpList_append_T (w0 := w) (us := [t]) rfl _ _ 25 25 rfl Tryz.slPoly Tryz.slPoly rfl rfl rfl (On.out.up ((ag _ _).alloc (ae _) _)) (rpol_one HTn.out _) HB01.out XL.out (goes HBn.out ((ag _ _).alloc (ae _) _)) (Nat.le_of_lt (by rw [HGB.out]; exact HLT.out)) (ah Zn.out (by simp)) ?_)
     intro v' w8 AP
     have HAP := aa AP
     clear AP
     have HK8 := aa (HAP.out.bk (Kn.out.up ((ag _ _).alloc (ae _) _)) HLT.out)
     have HZ8 := aa (ah (ah Zn.out (by simp)) HAP.out.size)
     obtain ⟨A8, c8, rfl, hc8, _, _⟩ := HAP.out.own.reads
     have HB8 := aa HAP.out.below
     obtain ⟨ad2, B1', c1', B2', c2', s', e, _, hs', hrt', q0, q1, q2, q3, q4, q5, q6⟩ := (HP.out.up HB8.out).get hlt
     cases e
     obtain rfl : s' = s := by have := hs'.out; rw [hsi.out] at this; injection this with this; exact this.symm
     go_wp2_with (at_builtin; refine wpList_append_T (w0 := w) (us := [s']) rfl _ _ 25 25 rfl Tryz.slPoly Tryz.slPoly rfl rfl rfl (HAP.out.own.up ((ag _ _).alloc (ae _) _)) (rpol_one hrt'.out _) HB01.out HST.out.1 (goes HB8.out ((ag _ _).alloc (ae _) _)) (Nat.le_of_lt (by rw [HGB.out]; exact HLT.out)) (ah HZ8.out (by simp)) ?_)
     intro v' w9 AP
     have HAP9 := aa AP
     clear AP
     have HK9 := aa (HAP9.out.bk (HK8.out.up ((ag _ _).alloc (ae _) _)) HLT.out)
     have HZ9 := aa (ah (ah HZ8.out (by simp)) HAP9.out.size)
     go_wp2_with fail
     go_roundw
     case measure => first | (simp [intOf]; done) | (simp [intOf]; omega)
     case rel => exact ⟨i + 1, true, _, by go_num, rfl, by omega, HST.out.2.1, ⟨HAP9.out.own⟩, ⟨HST.out.2.2⟩, ⟨HAP9.out.below⟩, HK9, HZ9⟩
    have HST := step (dd := d) (acct := acc) (by omega) hv
    clear HV1 step hv
    rcases hk with ⟨hk, rfl⟩ | hk
    all_goals
     obtain ⟨ad2, B1', c1', B2', c2', s', e, _, hs', hrt', q0, q1, q2, q3, q4, q5, q6⟩ := (HP.out.up HBn.out).get hlt
     cases e
     obtain rfl : s' = s := by have := hs'.out; rw [hsi.out] at this; injection this with this; exact this.symm
     go_wp2_with (at_builtin; refine wpList_append_T (w0 := w) (us := [s']) rfl _ _ 25 25 rfl Tryz.slPoly Tryz.slPoly rfl rfl rfl (On.out.up ((ag _ _).alloc (ae _) _)) (rpol_one hrt'.out _) HB01.out HST.out.1 (goes HBn.out ((ag _ _).alloc (ae _) _)) (Nat.le_of_lt (by rw [HGB.out]; exact HLT.out)) (ah Zn.out (by simp)) ?_)
     intro v' w9 AP
     have HAP9 := aa AP
     clear AP
     have HK9 := aa (HAP9.out.bk (Kn.out.up ((ag _ _).alloc (ae _) _)) HLT.out)
     have HZ9 := aa (ah (ah Zn.out (by simp)) HAP9.out.size)
     go_wp2_with fail
     go_roundw
     case measure => first | (simp [intOf]; done) | (simp [intOf]; omega)
     case rel => exact ⟨i + 1, _, _, by go_num, rfl, by omega, HST.out.2.1, ⟨HAP9.out.own⟩, ⟨HST.out.2.2⟩, ⟨HAP9.out.below⟩, HK9, HZ9⟩
  ·obtain rfl : i = al.length := by omega
   have HE : Hd (E = (0, if d = true then acc else acc ++ [t])) := ⟨by rw [← HQ.out, List.drop_eq_nil_of_le (ae _)]; rfl⟩
   cases d
   ·have HTn := aa (HT.out.up HB.out)
    obtain ⟨⟨t0, t1, t2⟩, t3, t4, t5, t6⟩ := HK.out.seven
    have xl : acc.length + [t].length ≤ 1000000 := by simp; omega
    have XL := aa xl
    clear HQ xl
    go_wp2_with (at_builtin; refine wpList_append_T (w0 := w) (us := [t]) rfl _ _ 25 25 rfl Tryz.slPoly Tryz.slPoly rfl rfl rfl (HO.out.up ((ag _ _).alloc (ae _) _)) (rpol_one HTn.out _) HB01.out XL.out (goes HB.out ((ag _ _).alloc (ae _) _)) (Nat.le_of_lt (by rw [HGB.out]; exact HLT.out)) (ah HZ.out (by simp)) ?_)
    intro v' w8 AP
    have HAP := aa AP
    clear AP
    obtain ⟨A8, c8, rfl, hc8, _, hr8⟩ := HAP.out.own.reads
    have HR8 := aa hr8
    clear hr8
    go_wp2_with fail
    go_ret2
    rw [HE.out]
    exact ⟨A8, c8, rfl, hc8, HR8.out, HAP.out.below⟩
   ·obtain ⟨_, _, e, _, _, hr8⟩ := HO.out.reads
    cases e
    have HR8 := aa hr8
    clear hr8 HQ
    go_wp2_with fail
    go_ret2
    rw [HE.out]
    exact ⟨_, _, rfl, hcv, HR8.out, HB.out⟩
theorem Tryz.stTerm : isStruct (Tryz.prog.underlying 68) = true := by kernel_rfl
theorem Tryz.szTerm : (Tryz.prog.info? 68).map (·.size) = some 7 := by kernel_rfl
def set7 (w : World) (g : Nat) (v0 v1 v2 v3 v4 v5 v6 : Value) : World := ((((((w.setCell ⟨g, 0, none⟩ v0).setCell ⟨g, 1, none⟩ v1).setCell ⟨g, 2, none⟩ v2).setCell ⟨g, 3, none⟩ v3).setCell ⟨g, 4, none⟩ v4).setCell ⟨g, 5, none⟩ v5).setCell ⟨g, 6, none⟩ v6
section
variable {w w0 : World} {g b0 B : Nat} {t : TypeId} {a0 a1 a2 a3 a4 a5 a6 : Value}
theorem Bk.set7 (h : Bk w g t #[a0, a1, a2, a3, a4, a5, a6]) (v0 v1 v2 v3 v4 v5 v6 : Value) : Bk (set7 w g v0 v1 v2 v3 v4 v5 v6) g t #[v0, v1, v2, v3, v4, v5, v6] := by
 have h1 : Bk _ g t #[v0, a1, a2, a3, a4, a5, a6] := h.set_ 0 v0
 have h2 : Bk _ g t #[v0, v1, a2, a3, a4, a5, a6] := h1.set_ 1 v1
 have h3 : Bk _ g t #[v0, v1, v2, a3, a4, a5, a6] := h2.set_ 2 v2
 have h4 : Bk _ g t #[v0, v1, v2, v3, a4, a5, a6] := h3.set_ 3 v3
 have h5 : Bk _ g t #[v0, v1, v2, v3, v4, a5, a6] := h4.set_ 4 v4
 have h6 : Bk _ g t #[v0, v1, v2, v3, v4, v5, a6] := h5.set_ 5 v5
 have h7 : Bk _ g t #[v0, v1, v2, v3, v4, v5, v6] := h6.set_ 6 v6
 exact h7
theorem Below.set7 (h : Below B w0 w) (hg : B ≤ g) (v0 v1 v2 v3 v4 v5 v6 : Value) : Below B w0 (set7 w g v0 v1 v2 v3 v4 v5 v6) :=
 ((((((h.setCell hg _).setCell hg _).setCell hg _).setCell hg _).setCell hg _).setCell hg _).setCell hg _
theorem RTerm.set7 {v : Value} {s : TermD} {cs : Array Value} (h : RTerm w b0 v s) (hk : Bk w g 68 cs) (hb : b0 ≤ g) (v0 v1 v2 v3 v4 v5 v6 : Value) : RTerm (set7 w g v0 v1 v2 v3 v4 v5 v6) b0 v s :=
 h.grown ((((((set_grown w ⟨g, 0, none⟩ v0).set 1 v1).set 2 v2).set 3 v3).set 4 v4).set 5 v5 |>.set 6 v6) (fun g' e => by cases e; exact ⟨hb, _, _, hk, by decide⟩)
end
end Go.Proofs.YtgjkgkgieeoalaaGreat
namespace Go.Proofs.YtgjkgkgieeoalaaGreat
open Go.ChangeShapes Go.WideShapes Go.RowKit
def fieldsAt : Option TypeDesc → List (TypeId × Nat)
 | some (.struct fs) => fs.toList.map fun f => (f.type, f.offset)
 | _ => []
theorem fields_of {o : Option TypeDesc} {x : TypeId × Nat} {l : List (TypeId × Nat)} (h : fieldsAt o = x :: l) : ∃ fs : Array Field, o = some (.struct fs) ∧ fs.toList.map (fun f => (f.type, f.offset)) = x :: l := by
 unfold fieldsAt at h
 split at h
 ·exact ⟨_, rfl, h⟩
 ·cases h
theorem two_of {o : Option TypeDesc} {x y : TypeId × Nat} (h : fieldsAt o = [x, y]) : ∃ f g : Field, o = some (.struct #[f, g]) ∧ f.type = x.1 ∧ f.offset = x.2 ∧ g.type = y.1 ∧ g.offset = y.2 := by
 obtain ⟨⟨l⟩, e, h2⟩ := fields_of h
 match l, h2 with
 | [f, g], h2 =>
   simp only [List.map_cons, List.map_nil, List.cons.injEq, and_true] at h2
   exact ⟨f, g, e, by rw [← h2.1], by rw [← h2.1], by rw [← h2.2], by rw [← h2.2]⟩
end Go.Proofs.YtgjkgkgieeoalaaGreat
namespace Go.Proofs.YtgjkgkgieeoalaaGreat
open Go.RowKit
theorem ofD_small {n : Int} (h : n.natAbs < 18446744073709551616) : GoodR (ofD n) := ofD_good (Nat.lt_of_lt_of_le h (by decide))
theorem ofD_num {n : Int} (h : n ≠ 0) : (ofD n).num.length ≠ 0 := fun e => by
 have := limbs_nil.1 (List.eq_nil_of_length_eq_zero (show (limbs n.natAbs).length = 0 from e))
 omega
theorem ofD_short (n : Int) (h : n.natAbs < 18446744073709551616) : (ofD n).short := by
 obtain ⟨h1, h2, _⟩ := ratMay_of (ofD_small h).may
 have := natMay_len h1
 have := natMay_len h2
 exact ⟨by omega, by omega⟩
section
variable {W : World} {b0 g : Nat}
theorem Rd.of_bk {t : TypeId} {cs : Array Value} (h : Bk W g t cs) (n sz : Nat) (hs : cs.size = n * sz) : Rd W W.heap.size sz (some ⟨g, 0, none⟩) n cs.toList := by
 refine ⟨by simpa using hs, fun _ => ⟨_, rfl, h.lt, fun j u hu => ?_⟩⟩
 rw [show ((⟨g, 0, none⟩ : Addr).add j) = ⟨g, j, none⟩ by rw [add_win, Nat.zero_add], h.cell]
 simpa using hu
theorem rpols_bk2 {t : TypeId} {p q : List TermD} {A B : Option Addr} {c d : Nat} (hk : Bk W g t #[.slice A p.length c, .slice B q.length d]) (h : RPol W b0 A p) (h' : RPol W b0 B q) (hc : p.length ≤ c) (hd : q.length ≤ d) : RPols W b0 (some ⟨g, 0, none⟩) [p, q] := by
 refine ⟨_, Rd.of_bk hk 2 1 rfl, fun j r hj => ?_⟩
 match j, hj with
 | 0, hj => injection hj with hj; subst hj; exact ⟨_, _, rfl, hc, h⟩
 | 1, hj => injection hj with hj; subst hj; exact ⟨_, _, rfl, hd, h'⟩
 | n + 2, hj => cases hj
end
theorem Bo2.al {S g1 g2 : Nat} {w0 w : World} {t1 t2 : TypeId} {c1 c2 : Array Value} (h : Bo2 S g1 g2 w0 w t1 t2 c1 c2) (o : Obj) : Bo2 S g1 g2 w0 (w.alloc o) t1 t2 c1 c2 := h.up ((ag _ _).alloc (ae _) _)
theorem below1 (w : World) (o : Obj) : Below w.heap.size w (w.alloc o) := (ag _ _).alloc (ae _) _
theorem putD_short {o : Int} {al : List TermD} {t : TermD} (h : ∀ s ∈ al, s.c.short) (ht : t.c.short) : (∀ s ∈ (putD o al t).2, s.c.short) ∧ (putD o al t).2.length ≤ al.length + 1 := by
 unfold putD
 split
 ·split
  ·exact ⟨fun s (hs : s ∈ []) => (by cases hs), Nat.zero_le _⟩
  ·refine ⟨fun s hs => ?_, by unfold setM; simp⟩
   unfold setM at hs
   rw [List.mem_map] at hs
   obtain ⟨p, hp, e⟩ := hs
   split at e
   ·subst e; exact addD_short _ _
   ·subst e; exact h p hp
 ·refine ⟨fun s hs => ?_, by rw [insD_len]; exact ae _⟩
  rcases mem_insD.1 hs with rfl | hs
  ·exact ht
  ·exact h s hs
theorem polMake_odd {o : Int} {ts : List TermD} {i : Nat} {t : TermD} (h : ts[i]? = some t) (hr : right t = false) : polMake o ts = (1, []) := by
 unfold polMake
 rw [if_pos]
 have : anyOdd ts = true := by
  unfold anyOdd
  rw [List.any_eq_true]
  exact ⟨t, List.mem_of_getElem? h, by rw [hr]; rfl⟩
 rw [this]; simp
theorem rpol_MakeF (b0 : Nat) (order : Int) (A : Option Addr) (c : Nat) (ts : List TermD) (w : World) (hb0 : b0 ≤ w.heap.size) (h : RPol w b0 A ts) (hc : ts.length ≤ c) (h9 : ts.length ≤ 50000) (hs : shortP ts) :
    Calls Tryz.prog 87 #[.int .i64 order, .slice A ts.length c] w fun e w' => ∃ A' c', e = .returned (.tuple #[.slice A' (polMake order ts).2.length c', .int .i64 (polMake order ts).1]) ∧
     (polMake order ts).2.length ≤ c' ∧ RPol w' b0 A' (polMake order ts).2 ∧ Below w.heap.size w w' ∧ Fr w.heap.size A' := by
 have HP := aa h
 have HS := aa hs
 have HB0 := aa hb0
 have CO := aa (rpol_ordered order w)
 clear h hs hb0
 obtain ⟨E, hE⟩ : ∃ E, polMake order ts = E := ⟨_, rfl⟩
 rw [hE]
 have HE := aa hE
 clear hE
 obtain ⟨ob, hob⟩ : ∃ ob, ordered order = ob := ⟨_, rfl⟩
 rw [hob] at CO
 have HO := aa hob
 clear hob
 cases ob
 ·have HF : Hd (E = (1, [])) := ⟨by rw [← HE.out]; unfold polMake; rw [HO.out]; rfl⟩
  go_enter Tryz.func87, Tryz.ntmps87
  go_wp2_with fail
  refine CO.out.mono ?_
  rintro e w2 ⟨rfl, rfl⟩
  go_wp2_with fail
  go_ret2
  rw [HF.out]
  exact ⟨none, 0, rfl, ae _, RPol.nil _ _ _, .refl _ _, Fr.none _⟩
 go_enter Tryz.func87, Tryz.ntmps87
 go_wp2_with fail
 refine CO.out.mono ?_
 rintro e w2 ⟨rfl, rfl⟩
 clear CO
 go_wp2_with fail
 go_loopw [6] (fun v wr => ∃ i : Nat, v = .int .i64 i ∧ i ≤ ts.length ∧ Hd (Below w.heap.size w wr) ∧ Hd (∀ s ∈ ts.take i, right s = true)) (fun v _ => ts.length - (intOf v).toNat)
 case atStart => exact ⟨0, rfl, by omega, ⟨.refl _ _⟩, ⟨by simp⟩⟩
 case round =>
  obtain ⟨i, rfl, hi, hb, ha⟩ := hrel
  by_cases hlt : i < ts.length
  ·have i1 : (i : Int) < ts.length := by omega
   have i3 : (0 : Int) ≤ i := by omega
   obtain ⟨ad, B1, c1, B2, c2, t, rfl, hab, ht, hrt, q0, q1, q2, q3, q4, q5, q6⟩ := (HP.out.up hb.out).get hlt
   obtain ⟨k0, k1, k2, k3, k4, k5, k6⟩ := Wd.at7 q0 q1 q2 q3 q4 q5 q6
   have hst := HS.out.2 t (List.mem_of_getElem? ht.out)
   have C1 := aa (rrat_May b0 _ t.c wr hrt.out.rat hst)
   have C2 := aa (rmon_May t.m)
   have HR : Hd (right t = (ratMay t.c && monMay t.m)) := ⟨rfl⟩
   have HG : Hd (right t = true → ∀ s ∈ ts.take (i + 1), right s = true) := ⟨fun hr s hs => by
    have e1 : ts[i] = t := by have := ht.out; rw [ai hlt] at this; injection this
    rw [List.take_succ_eq_append_getElem hlt, e1, List.mem_append, List.mem_singleton] at hs
    rcases hs with hs | rfl
    ·exact ha.out s hs
    ·exact hr⟩
   have HN := aa (fun hr => HE.out.symm.trans (polMake_odd (o := order) ht.out hr))
   clear hst ht q3 q4 q5 q6
   cases hm1 : ratMay t.c
   ·rw [hm1] at C1
    have HF := aa (HN.out (by rw [HR.out, hm1]; rfl))
    clear hm1
    go_wp2_with fail
    refine C1.out.mono ?_
    rintro e w3 ⟨rfl, hb3⟩
    have HB3 := aa (goes hb.out hb3)
    clear hb3
    go_wp2_with fail
    go_ret2
    rw [HF.out]
    exact ⟨none, 0, rfl, ae _, RPol.nil _ _ _, HB3.out, Fr.none _⟩
   rw [hm1] at C1 HR
   clear hm1
   go_wp2_with fail
   refine C1.out.mono ?_
   rintro e w3 ⟨rfl, hb3⟩
   have HB3 := aa (goes hb.out hb3)
   have k3 := k3 ⟨w3, hb3⟩
   have k4 := k4 ⟨w3, hb3⟩
   have k5 := k5 ⟨w3, hb3⟩
   have k6 := k6 ⟨w3, hb3⟩
   simp only [Wd.w] at k3 k4 k5 k6
   clear hb3 k0 k1 k2 C1 q0 q1 q2
   cases hm2 : monMay t.m
   ·rw [hm2] at C2
    have HF := aa (HN.out (by rw [HR.out, hm2]; rfl))
    clear hm2
    go_wp2_with fail
    refine (C2.out _).mono ?_
    rintro e w4 ⟨rfl, hb4⟩
    have HB4 := aa (goes HB3.out hb4)
    clear hb4
    go_wp2_with fail
    go_ret2
    rw [HF.out]
    exact ⟨none, 0, rfl, ae _, RPol.nil _ _ _, HB4.out, Fr.none _⟩
   ·rw [hm2] at C2
    have HF := aa (HG.out (by rw [HR.out, hm2]; rfl))
    clear hm2
    go_wp2_with fail
    refine (C2.out _).mono ?_
    rintro e w4 ⟨rfl, hb4⟩
    have HB4 := aa (goes HB3.out hb4)
    clear hb4
    go_wp2_with fail
    go_roundw
    case measure => first | (simp [intOf]; done) | (simp [intOf]; omega)
    case rel => exact ⟨i + 1, by go_num, by omega, HB4, HF⟩
  ·obtain rfl : i = ts.length := by omega
   have HR : Hd (∀ s ∈ ts, right s = true) := ⟨by have := ha.out; rwa [List.take_length] at this⟩
   have HE2 : Hd (E = if (putAll order [] ts).1 ≠ 0 then ((putAll order [] ts).1, []) else if 60 < ((putAll order [] ts).2.filter nz).length then (90, []) else (0, (putAll order [] ts).2.filter nz)) := ⟨by
    rw [← HE.out]
    unfold polMake
    have : anyOdd ts = false := by
     unfold anyOdd
     rw [List.any_eq_false]
     intro s hs
     rw [HR.out s hs]; simp
    rw [HO.out, this, if_neg (by simp)]⟩
   have HOK := aa (ordered_ok.1 HO.out)
   clear ha HE
   go_upto_region 9 with (fail)
   refine wp_gen (fun W => Below w.heap.size w W ∧ RPol W b0 (some ⟨wr.heap.size, 0, none⟩) []) ⟨hb.out.alloc hb.out.size _, RPol.nil _ _ _⟩ ?_
   intro W0 hW
   have HB := aa hW.out.1
   have H0 := aa hW.out.2
   clear hW hb
   generalize wr.heap.size = g0 at H0 ⊢
   go_wp2_with fail
   go_loopw [7, 8] (fun v7 v8 wr => ∃ (i : Nat) (al : List TermD) (A' : Option Addr) (c' : Nat), v8 = .int .i64 i ∧ v7 = .slice A' al.length c' ∧ i ≤ ts.length ∧ al.length ≤ i ∧ al.length ≤ c' ∧ Hd (RPol wr b0 A' al) ∧ Hd (Sta order al ∧ ∀ s ∈ al, s.c.short) ∧ Hd (putAll order al (ts.drop i) = putAll order [] ts) ∧ Hd (Below w.heap.size w wr)) (fun _ v _ => ts.length - (intOf v).toNat)
   case atStart => exact ⟨0, [], _, _, rfl, rfl, by omega, by simp, ae _, H0, ⟨.nil HOK.out, fun s h => by cases h⟩, ⟨rfl⟩, HB⟩
   case round =>
    clear H0 HB
    obtain ⟨i, al, A', c', rfl, rfl, hi, hal, hac, HA, HST, HQ, HB⟩ := hrel
    by_cases hlt : i < ts.length
    ·have i1 : (i : Int) < ts.length := by omega
     have i3 : (0 : Int) ≤ i := by omega
     obtain ⟨ad, B1, c1, B2, c2, t, rfl, hab, ht, hrt, q0, q1, q2, q3, q4, q5, q6⟩ := (HP.out.up HB.out).get hlt
     have hst := HS.out.2 t (List.mem_of_getElem? ht.out)
     have hmt : monMay t.m = true := by
      have := HR.out t (List.mem_of_getElem? ht.out)
      unfold right at this
      rw [Bool.and_eq_true] at this
      exact this.2
     have CP := aa (rpol_put b0 order A' c' al _ t wr (ah HB0.out HB.out.size) HA.out hac (by omega) ⟨by omega, HST.out.2⟩ hrt.out hst hmt HST.out.1)
     have HD : Hd (putAll order [] ts = if (putD order al t).1 ≠ 0 then ((putD order al t).1, []) else putAll order (putD order al t).2 (ts.drop (i + 1))) := ⟨by
      have e1 : ts[i] = t := by have := ht.out; rw [ai hlt] at this; injection this
      rw [← HQ.out, List.drop_eq_getElem_cons hlt, e1]; rfl⟩
     have HN : Hd ((putD order al t).1 = 0 → Sta order (putD order al t).2) := ⟨fun he => HST.out.1.putD hmt he⟩
     have HSH := aa (putD_short (o := order) (al := al) (t := t) HST.out.2 hst)
     obtain ⟨X1, X2, hX⟩ : ∃ X1 X2, putD order al t = (X1, X2) := ⟨_, _, rfl⟩
     rw [hX] at CP HD HN HSH
     clear hst hmt ht hX hrt
     go_wp2_with fail
     refine CP.out.mono ?_
     rintro e w3 ⟨A3, c3, rfl, hc3, hr3, hb3⟩
     have HB3 := aa (goes HB.out hb3)
     have HA3 := aa hr3
     have hl3 : X2.length ≤ i + 1 := ah HSH.out.2 (by omega)
     clear hb3 hr3 q0 q1 q2 q3 q4 q5 q6 CP
     by_cases he : X1 = 0
     ·have e1 : (X1 != 0) = false := by rw [bne_eq_false_iff_eq]; exact he
      have HD2 : Hd (putAll order X2 (ts.drop (i + 1)) = putAll order [] ts) := ⟨by rw [HD.out, if_neg (by simpa using he)]⟩
      have HST2 : Hd (Sta order X2 ∧ ∀ s ∈ X2, s.c.short) := ⟨HN.out he, HSH.out.1⟩
      clear he
      go_wp2_with fail
      go_roundw
      case measure => first | (simp [intOf]; done) | (simp [intOf]; omega)
      case rel => exact ⟨i + 1, X2, A3, c3, by go_num, rfl, by omega, hl3, hc3, HA3, HST2, HD2, HB3⟩
     ·have e1 : (X1 != 0) = true := by rw [bne_iff_ne]; exact he
      have HF : Hd (E = (X1, [])) := ⟨by
       have hp : putAll order [] ts = (X1, []) := HD.out.trans (if_pos he)
       rw [HE2.out, hp]; exact if_pos he⟩
      clear he
      go_wp2_with fail
      go_ret2
      rw [HF.out]
      exact ⟨none, 0, rfl, ae _, RPol.nil _ _ _, HB3.out, Fr.none _⟩
    ·obtain rfl : i = ts.length := by omega
     have HQ2 : Hd (putAll order [] ts = (0, al)) := ⟨by rw [← HQ.out, List.drop_eq_nil_of_le (ae _)]; rfl⟩
     have HE3 : Hd (E = if 60 < (al.filter nz).length then (90, []) else (0, al.filter nz)) := ⟨by rw [HE2.out, HQ2.out, if_neg (by simp)]⟩
     have HAS := aa HST.out.2
     obtain ⟨wA, hwA⟩ : ∃ x, x = wr := ⟨wr, rfl⟩
     subst hwA
     have HB0A := aa (ah HB0.out HB.out.size)
     clear HQ HQ2 HE2 HST
     go_upto_region 17 with (fail)
     refine wp_gen (fun W => Below wA.heap.size wA W ∧ OwnT W b0 wA.heap.size (.slice (some ⟨wA.heap.size, 0, none⟩) 0 0) []) ⟨(ag _ _).alloc (ae _) _, ownT_lit wA b0 wA.heap.size (ae _)⟩ ?_
     intro W1 hW
     have HO1 := aa hW.out.2
     have HB1 := aa hW.out.1
     clear hW
     go_wp2_with fail
     go_loopw [11, 12] (fun v11 v12 wr => ∃ (i : Nat) (acc : List TermD), v12 = .int .i64 i ∧ i ≤ al.length ∧ acc.length ≤ i ∧ Hd (OwnT wr b0 wA.heap.size v11 acc) ∧ Hd (acc = (al.take i).filter nz) ∧ Hd (Below wA.heap.size wA wr)) (fun _ v _ => al.length - (intOf v).toNat)
     case atStart => exact ⟨0, [], rfl, by omega, by simp, HO1, ⟨rfl⟩, HB1⟩
     case round =>
      clear HO1 HB1
      obtain ⟨i, acc, rfl, hi, hacc, HO, HQ, HB2⟩ := hrel
      obtain ⟨Av, cv, rfl, hcv, _, hrv⟩ := HO.out.reads
      have HRV := aa hrv
      clear hrv
      by_cases hlt : i < al.length
      ·have i1 : (i : Int) < al.length := by omega
       have i3 : (0 : Int) ≤ i := by omega
       obtain ⟨ad, B1, c1, B2, c2, t, rfl, hab, ht, hrt, q0, q1, q2, q3, q4, q5, q6⟩ := (HA.out.up HB2.out).get hlt
       have CZ := aa (rrat_Zero b0 _ t.c wr hrt.out.rat)
       have HT : Hd ((al.take (i + 1)).filter nz = acc ++ [t].filter nz) := ⟨by
        have e1 : al[i] = t := by have := ht.out; rw [ai hlt] at this; injection this
        rw [List.take_succ_eq_append_getElem hlt, e1, List.filter_append, HQ.out]⟩
       obtain ⟨zb, hzb⟩ : ∃ zb, decide (t.c.num.length = 0) = zb := ⟨_, rfl⟩
       have HZ : Hd (nz t = !zb) := ⟨by unfold nz; rw [hzb]⟩
       rw [hzb] at CZ
       clear hzb HQ ht
       cases zb
       ·have HT2 : Hd (acc ++ [t] = (al.take (i + 1)).filter nz) := ⟨by rw [HT.out, List.filter_cons, HZ.out]; rfl⟩
        have xl : acc.length + [t].length ≤ 1000000 := by simp; omega
        have XL := aa xl
        clear HT HZ xl
        go_wp2_with fail
        refine CZ.out.mono ?_
        rintro e w4 ⟨rfl, hb4⟩
        have HB4 := aa (goes HB2.out hb4)
        have HO4 := aa (HO.out.up hb4)
        have HT4 := aa (hrt.out.up hb4)
        have r0 := cell_up q0 hb4
        have r1 := cell_up q1 hb4
        have r2 := cell_up q2 hb4
        have r3 := cell_up q3 hb4
        have r4 := cell_up q4 hb4
        have r5 := cell_up q5 hb4
        have r6 := cell_up q6 hb4
        clear hb4 q0 q1 q2 q3 q4 q5 q6 CZ hrt
        go_wp2_with (at_builtin; refine wpList_append_T (w0 := wA) (us := [t]) rfl _ _ 25 25 rfl Tryz.slPoly Tryz.slPoly rfl rfl rfl (HO4.out.up ((ag _ _).alloc (ae _) _)) (rpol_one HT4.out _) HB0A.out XL.out (goes HB4.out ((ag _ _).alloc (ae _) _)) (ae _) (goes HB4.out ((ag _ _).alloc (ae _) _)).size ?_)
        intro v' w8 AP
        have HAP := aa AP
        clear AP
        have hl8 : (acc ++ [t]).length ≤ i + 1 := by simp; omega
        go_wp2_with fail
        go_roundw
        case measure => first | (simp [intOf]; done) | (simp [intOf]; omega)
        case rel => exact ⟨i + 1, acc ++ [t], by go_num, by omega, hl8, ⟨HAP.out.own⟩, HT2, ⟨HAP.out.below⟩⟩
       ·have HT2 : Hd (acc = (al.take (i + 1)).filter nz) := ⟨by rw [HT.out, List.filter_cons, HZ.out]; simp⟩
        clear HT HZ
        go_wp2_with fail
        refine CZ.out.mono ?_
        rintro e w4 ⟨rfl, hb4⟩
        have HB4 := aa (goes HB2.out hb4)
        have HO4 := aa (HO.out.up hb4)
        clear hb4 CZ hrt
        go_wp2_with fail
        go_roundw
        case measure => first | (simp [intOf]; done) | (simp [intOf]; omega)
        case rel => exact ⟨i + 1, acc, by go_num, by omega, by omega, HO4, HT2, HB4⟩
      ·obtain rfl : i = al.length := by omega
       have HQ2 : Hd (E = if 60 < acc.length then (90, []) else (0, acc)) := ⟨by rw [HE3.out, HQ.out, List.take_length]⟩
       clear HQ
       by_cases h60 : 60 < acc.length
       ·have HF : Hd (E = (90, [])) := ⟨by rw [HQ2.out, if_pos h60]⟩
        clear HQ2
        go_wp2_with fail
        go_ret2
        rw [HF.out]
        exact ⟨none, 0, rfl, ae _, RPol.nil _ _ _, goes HB.out HB2.out, Fr.none _⟩
       ·have HF : Hd (E = (0, acc)) := ⟨by rw [HQ2.out, if_neg h60]⟩
        clear HQ2
        go_wp2_with fail
        go_ret2
        rw [HF.out]
        exact ⟨Av, cv, rfl, hcv, HRV.out, goes HB.out HB2.out, HO.out.fr HB.out.size⟩
theorem rpol_Make (b0 : Nat) (order : Int) (A : Option Addr) (c : Nat) (ts : List TermD) (w : World) (hb0 : b0 ≤ w.heap.size) (h : RPol w b0 A ts) (hc : ts.length ≤ c) (h9 : ts.length ≤ 50000) (hs : shortP ts) :
    Calls Tryz.prog 87 #[.int .i64 order, .slice A ts.length c] w fun e w' => ∃ A' c', e = .returned (.tuple #[.slice A' (polMake order ts).2.length c', .int .i64 (polMake order ts).1]) ∧
     (polMake order ts).2.length ≤ c' ∧ RPol w' b0 A' (polMake order ts).2 ∧ Below w.heap.size w w' :=
 (rpol_MakeF b0 order A c ts w hb0 h hc h9 hs).mono fun _ _ ⟨A', c', h1, h2, h3, h4, _⟩ => ⟨A', c', h1, h2, h3, h4⟩
theorem putAll_short {o : Int} : ∀ {ts al : List TermD}, (∀ s ∈ al, s.c.short) → (∀ s ∈ ts, s.c.short) → ∀ s ∈ (putAll o al ts).2, s.c.short
 | [], al, h, _ => h
 | t :: ts, al, h, ht => by
   unfold putAll
   split
   ·intro s hs; cases hs
   ·exact putAll_short (putD_short h (ht t (by simp))).1 (fun s hs => ht s (by simp [hs]))
theorem polMake_short {o : Int} {ts : List TermD} (h : ∀ s ∈ ts, s.c.short) : shortP (polMake o ts).2 ∧ (polMake o ts).2.length ≤ 60 := by
 unfold polMake
 split
 ·exact ⟨⟨by simp, fun s hs => by cases hs⟩, by simp⟩
 ·split
  ·exact ⟨⟨by simp, fun s hs => by cases hs⟩, by simp⟩
  ·split
   ·exact ⟨⟨by simp, fun s hs => by cases hs⟩, by simp⟩
   ·rename_i h60
    have hl : ((putAll o [] ts).2.filter nz).length ≤ 60 := Nat.le_of_not_lt h60
    exact ⟨⟨ah hl (by decide), fun s hs => putAll_short (fun _ h => by cases h) h s (List.mem_filter.1 hs).1⟩, hl⟩
section
variable {w w' : World} {b0 base : Nat} {row : Option Nat}
def Rok (w : World) (b0 : Nat) (row : Option Nat) : Prop := ∀ g, row = some g → b0 ≤ g ∧ ∃ t cs, Bk w g t cs ∧ t ≠ 112
theorem OwnT.grown {u : Value} {q : List TermD} (h : OwnT w b0 base u q) (hg : w.grownBy w' row) (hne : u.ownBlock = none ∨ u.ownBlock ≠ row) (hr : Rok w b0 row) : OwnT w' b0 base u q :=
 let ⟨cs, h1, h2⟩ := h; ⟨cs, World.ownsRow.kept h1 hg hne, h2.grown hg hr⟩
theorem OwnT.rok {u : Value} {q : List TermD} (h : OwnT w b0 base u q) (hb : b0 ≤ base) : Rok w b0 u.ownBlock :=
 let ⟨_, h1, _⟩ := h; own_row_ok h1 hb (by decide)
theorem OwnT.lt {u : Value} {q : List TermD} (h : OwnT w b0 base u q) {g : Nat} (e : u.ownBlock = some g) : g < w.heap.size ∧ base ≤ g ∧ ∃ cs, Bk w g 68 cs := by
 obtain ⟨cs, h1, _⟩ := h
 obtain ⟨⟨ds, hk⟩, hb⟩ := own_bk h1 e
 exact ⟨hk.lt, hb, ds, hk⟩
theorem RPol.grown {A : Option Addr} {ts : List TermD} (h : RPol w b0 A ts) (hg : w.grownBy w' row) (hne : ts ≠ [] → ∀ ad, A = some ad → row ≠ some ad.block) (hr : Rok w b0 row) : RPol w' b0 A ts := by
 obtain ⟨cs, h1, h2⟩ := h
 refine ⟨cs, ⟨h1.1, fun hn => ?_⟩, h2.grown hg hr⟩
 obtain ⟨ad, e, hb, hc⟩ := h1.2 hn
 have hne' := hne (fun e0 => by rw [e0] at hn; cases hn) ad e
 exact ⟨ad, e, Nat.lt_of_lt_of_le hb hg.size, fun j u hu => (World.cell?_of_block (by rw [add_block]; exact hg.block _ hb (fun e2 => hne' e2.symm))).trans (hc j u hu)⟩
structure Fam (w : World) (b0 base : Nat) (F : List (Value × List TermD)) : Prop where
 own : ∀ (i : Nat) p, F[i]? = some p → OwnT w b0 base p.1 p.2
 sep : ∀ (i j : Nat) p q, i ≠ j → F[i]? = some p → F[j]? = some q → ∀ g, p.1.ownBlock = some g → q.1.ownBlock ≠ some g
def Off (F : List (Value × List TermD)) (A : Option Addr) : Prop := ∀ (i : Nat) p, F[i]? = some p → ∀ ad, A = some ad → p.1.ownBlock ≠ some ad.block
variable {F : List (Value × List TermD)} {p q : Value × List TermD} {i : Nat} {A : Option Addr}
theorem Fam.up (h : Fam w b0 base F) (hb : Below w.heap.size w w') : Fam w' b0 base F := ⟨fun i p hp => (h.own i p hp).up hb, h.sep⟩
theorem Fam.nil (w : World) (b0 base : Nat) : Fam w b0 base [] := ⟨fun i p h => by simp at h, fun i j p q _ h => by simp at h⟩
theorem Fam.far (h : Fam w b0 base F) (hg : w.grownBy w' row) (hr : Rok w b0 row) (hne : ∀ (i : Nat) p, F[i]? = some p → p.1.ownBlock = none ∨ p.1.ownBlock ≠ row) : Fam w' b0 base F :=
 ⟨fun i p hp => (h.own i p hp).grown hg (hne i p hp) hr, h.sep⟩
theorem set_at {α : Type} {F : List α} {i j : Nat} {q s : α} (hs : (F.set i q)[j]? = some s) : (j = i ∧ s = q) ∨ (j ≠ i ∧ F[j]? = some s) := by
 by_cases e : j = i
 ·subst e
  rw [List.getElem?_set_self'] at hs
  cases h : F[j]? with
  | none => rw [h] at hs; cases hs
  | some x => rw [h] at hs; injection hs with hs; exact .inl ⟨rfl, hs.symm⟩
 ·rw [List.getElem?_set_ne (Ne.symm e)] at hs
  exact .inr ⟨e, hs⟩
theorem Fam.app (h : Fam w b0 base F) (hi : F[i]? = some p) (hb : b0 ≤ base) (hg : w.grownBy w' p.1.ownBlock) (ho : OwnT w' b0 base q.1 q.2) (hat : q.1.ownBlock = p.1.ownBlock ∨ q.1.ownBlock = some w.heap.size) : Fam w' b0 base (F.set i q) := by
 have hr := (h.own i p hi).rok hb
 have hlen : i < F.length := (List.getElem?_eq_some_iff.1 hi).1
 have key : ∀ (j : Nat) s, j ≠ i → F[j]? = some s → ∀ g, s.1.ownBlock = some g → q.1.ownBlock ≠ some g := fun j s hj hs g hg' e => by
  rcases hat with h1 | h1
  ·exact h.sep j i s p hj hs hi g hg' (h1 ▸ e)
  ·rw [h1] at e
   injection e with e
   have := ((h.own j s hs).lt hg').1
   omega
 refine ⟨fun j s hs => ?_, fun j k s t hjk hs ht g hg' => ?_⟩
 ·rcases set_at hs with ⟨_, rfl⟩ | ⟨hne, hs⟩
  ·exact ho
  ·refine (h.own j s hs).grown hg ?_ hr
   cases e : s.1.ownBlock with
   | none => exact .inl rfl
   | some g => exact .inr fun e2 => h.sep j i s p hne hs hi g e e2.symm
 ·rcases set_at hs with ⟨e1, e2⟩ | ⟨hne, hs2⟩
  ·rcases set_at ht with ⟨e, _⟩ | ⟨hne2, ht2⟩
   ·exact absurd (e1.trans e.symm) hjk
   ·intro e3
    exact key k t hne2 ht2 g e3 (e2 ▸ hg')
  ·rcases set_at ht with ⟨e1, e2⟩ | ⟨hne2, ht2⟩
   ·rw [e2]; exact key j s hne hs2 g hg'
   ·exact h.sep j k s t hjk hs2 ht2 g hg'
theorem Off.app (h : Off F A) (hi : F[i]? = some p) (hlt : ∀ ad, A = some ad → ad.block < w.heap.size) (hat : q.1.ownBlock = p.1.ownBlock ∨ q.1.ownBlock = some w.heap.size) : Off (F.set i q) A := fun j s hs ad e => by
 rcases set_at hs with ⟨_, rfl⟩ | ⟨_, hs⟩
 ·rcases hat with h1 | h1
  ·rw [h1]; exact h i p hi ad e
  ·rw [h1]; intro e2; injection e2 with e2; have := hlt ad e; omega
 ·exact h j s hs ad e
theorem Off.fresh (h : Fam w b0 base F) (hf : Fr w.heap.size A) : Off F A := fun i p hi ad e e2 => by
 have h1 := ((h.own i p hi).lt e2).1
 have h2 := hf ad e
 omega
theorem Off.old (h : Fam w b0 base F) (hf : ∀ ad, A = some ad → ad.block < base) : Off F A := fun i p hi ad e e2 => by
 have h1 := ((h.own i p hi).lt e2).2.1
 have h2 := hf ad e
 omega
theorem Fam.cons (h : Fam w b0 base F) (ho : OwnT w b0 base p.1 p.2) (hs : ∀ (i : Nat) q, F[i]? = some q → ∀ g, p.1.ownBlock = some g → q.1.ownBlock ≠ some g) : Fam w b0 base (p :: F) :=
 ⟨fun i q hq => by
  cases i with
  | zero => injection hq with hq; subst hq; exact ho
  | succ i => exact h.own i q (by simpa using hq), fun i j q s hij hq hs' g hg => by
  cases i with
  | zero =>
    injection hq with hq
    subst hq
    cases j with
    | zero => exact absurd rfl hij
    | succ j => exact hs j s (by simpa using hs') g hg
  | succ i =>
    cases j with
    | zero =>
      injection hs' with hs'
      subst hs'
      intro e
      exact hs i q (by simpa using hq) g e hg
    | succ j => exact h.sep i j q s (by omega) (by simpa using hq) (by simpa using hs') g hg⟩
theorem zip_set {α β : Type} : ∀ (vs : List α) (qs : List β) (j : Nat) (v : α) (q : β), (vs.zip qs).set j (v, q) = (vs.set j v).zip (qs.set j q)
 | [], _, _, _, _ => by simp
 | _ :: _, [], j, _, _ => by cases j <;> simp
 | _ :: _, _ :: _, 0, _, _ => rfl
 | a :: vs, b :: qs, j + 1, v, q => by simp [zip_set vs qs j v q]
structure Mat (w : World) (b0 base : Nat) (V : Value) (vs : List Value) (R : Value) (r : List TermD) (qs : List (List TermD)) : Prop where
 out : w.ownsRow base 25 1 V vs.length vs
 len : vs.length = qs.length
 fam : Fam w b0 base ((R, r) :: vs.zip qs)
variable {V R : Value} {vs : List Value} {r : List TermD} {qs : List (List TermD)}
theorem Mat.up (h : Mat w b0 base V vs R r qs) (hb : Below w.heap.size w w') : Mat w' b0 base V vs R r qs := ⟨own_below h.out hb, h.len, h.fam.up hb⟩
theorem Mat.zip_at (h : Mat w b0 base V vs R r qs) {j : Nat} {v : Value} {qj : List TermD} (hv : vs[j]? = some v) (hq : qs[j]? = some qj) : ((R, r) :: vs.zip qs)[j + 1]? = some (v, qj) := by
 rw [List.getElem?_cons_succ]; exact List.getElem?_zip_eq_some.2 ⟨hv, hq⟩
theorem Mat.get (h : Mat w b0 base V vs R r qs) {j : Nat} (hj : j < qs.length) : ∃ v qj, vs[j]? = some v ∧ qs[j]? = some qj ∧ OwnT w b0 base v qj := by
 have h1 : vs[j]? = some (vs[j]'(by rw [h.len]; exact hj)) := ai _
 have h2 : qs[j]? = some qs[j] := ai hj
 exact ⟨_, _, h1, h2, h.fam.own (j + 1) _ (h.zip_at h1 h2)⟩
theorem Mat.form (h : Mat w b0 base V vs R r qs) (hl : 0 < qs.length) : ∃ G c, V = .slice (some ⟨G, 0, none⟩) vs.length c ∧ base ≤ G ∧ G < w.heap.size ∧ (∃ cs, Bk w G 25 cs) ∧ ∀ j v, vs[j]? = some v → w.cell? ⟨G, j, none⟩ = some v := by
 obtain ⟨G, c, hv, hb, hg⟩ := World.ownsRow.form h.out (by rw [h.len]; exact hl)
 subst hv
 refine ⟨G, c, rfl, hb, hg, (own_bk h.out rfl).1, fun j v hj => ?_⟩
 have := h.out.cells (g := G) rfl j v hj
 rwa [add_win, Nat.zero_add] at this
theorem Mat.sepT (h : Mat w b0 base V vs R r qs) {u : Value} {q : List TermD} (hu : OwnT w b0 base u q) : V.ownBlock = none ∨ V.ownBlock ≠ u.ownBlock := by
 cases e : V.ownBlock with
 | none => exact .inl rfl
 | some G =>
   refine .inr fun e2 => ?_
   obtain ⟨⟨cs, hk⟩, _⟩ := own_bk h.out e
   obtain ⟨_, _, ds, hk2⟩ := hu.lt e2.symm
   exact Bk.ne_ hk hk2 (by decide) rfl
theorem Mat.beside (h : Mat w b0 base V vs R r qs) (hb : b0 ≤ base) (hg : w.grownBy w' R.ownBlock) {R' : Value} {r' : List TermD} (ho : OwnT w' b0 base R' r') (hat : R'.ownBlock = R.ownBlock ∨ R'.ownBlock = some w.heap.size) : Mat w' b0 base V vs R' r' qs :=
 ⟨World.ownsRow.kept h.out hg (h.sepT (h.fam.own 0 (R, r) rfl)), h.len, by
  have := h.fam.app (i := 0) (p := (R, r)) (q := (R', r')) rfl hb hg ho hat
  simpa using this⟩
theorem Mat.inner (h : Mat w b0 base V vs R r qs) (hb : b0 ≤ base) {j : Nat} {v v' : Value} {qj q' : List TermD} (hv : vs[j]? = some v) (hq : qs[j]? = some qj) (hg : w.grownBy w' v.ownBlock) (ho : OwnT w' b0 base v' q') (hat : v'.ownBlock = v.ownBlock ∨ v'.ownBlock = some w.heap.size) :
    w'.ownsRow base 25 1 V vs.length vs ∧ Fam w' b0 base ((R, r) :: (vs.set j v').zip (qs.set j q')) := by
 refine ⟨World.ownsRow.kept h.out hg (h.sepT (h.fam.own (j + 1) (v, qj) (h.zip_at hv hq))), ?_⟩
 have := h.fam.app (i := j + 1) (p := (v, qj)) (q := (v', q')) (h.zip_at hv hq) hb hg ho hat
 rw [List.set_cons_succ] at this
 rw [zip_set] at this
 exact this
theorem Mat.store {G n c : Nat} (ho : w.ownsRow base 25 1 (.slice (some ⟨G, 0, none⟩) n c) n vs) (hn : n = vs.length) (hl : vs.length = qs.length) (hb : b0 ≤ base) {j : Nat} {v' : Value} {q' : List TermD} (hf : Fam w b0 base ((R, r) :: (vs.set j v').zip (qs.set j q'))) :
    Mat (w.setCell ⟨G, j, none⟩ v') b0 base (.slice (some ⟨G, 0, none⟩) n c) (vs.set j v') R r (qs.set j q') := by
 subst hn
 obtain ⟨⟨cs, hk⟩, hbg⟩ := own_bk ho (gp := G) rfl
 have h1 := (World.ownsRow.stored ho j v').1
 refine ⟨by rw [List.length_set]; exact h1, by rw [List.length_set, List.length_set, hl], hf.far (set_grown w ⟨G, j, none⟩ v') (fun g e => by cases e; exact ⟨ah hb hbg, _, _, hk, by decide⟩) fun i p hi => ?_⟩
 cases e : p.1.ownBlock with
 | none => exact .inl rfl
 | some g =>
   refine .inr fun e2 => ?_
   obtain ⟨_, _, ds, hk2⟩ := (hf.own i p hi).lt e
   injection e2 with e2
   exact Bk.ne_ hk hk2 (by decide) e2.symm
end
end Go.Proofs.YtgjkgkgieeoalaaGreat
