/- Parts of the proof, joined: each theorem says what it shows. -/
import Derived.Test.YtgjkgkgieeoalaaGreatE01
import Derived.Test.YtgjkgkgieeoalaaGreatE15
import Derived.Test.YtgjkgkgieeoalaaGreatE09
import Derived.Test.YtgjkgkgieeoalaaGreatE06
import Derived.PlainAid
set_option linter.unusedVariables false
set_option linter.unusedSimpArgs false
set_option maxHeartbeats 24000000
set_option maxRecDepth 100000
namespace Go.Proofs.YtgjkgkgieeoalaaGreat
open Go.RowKit
def OwnT (w : World) (b0 base : Nat) (v : Value) (ts : List TermD) : Prop := ∃ cs, w.ownsRow base 68 7 v ts.length cs ∧ TCs w b0 ts cs
section
variable {w w' : World} {b0 base : Nat} {v v' : Value} {ts us : List TermD}
theorem OwnT.nil (w : World) (b0 base : Nat) : OwnT w b0 base (.slice none 0 0) [] := ⟨[], ⟨rfl, .inl ⟨rfl, rfl⟩⟩, .nil⟩
theorem OwnT.up (h : OwnT w b0 base v ts) (hb : Below w.heap.size w w') : OwnT w' b0 base v ts := let ⟨cs, h1, h2⟩ := h; ⟨cs, own_below h1 hb, h2.up hb⟩
theorem OwnT.low {base' : Nat} (h : OwnT w b0 base v ts) (hb : base' ≤ base) : OwnT w b0 base' v ts := by
 obtain ⟨cs, ⟨h1, h3⟩, h2⟩ := h
 refine ⟨cs, ⟨h1, ?_⟩, h2⟩
 rcases h3 with h4 | ⟨g, cap, cur, e1, h5, r⟩
 ·exact .inl h4
 ·exact .inr ⟨g, cap, cur, e1, ah hb h5, r⟩
theorem OwnT.reads (h : OwnT w b0 base v ts) : ∃ A c, v = .slice A ts.length c ∧ ts.length ≤ c ∧ c ≤ maxLen ∧ RPol w b0 A ts := by
 obtain ⟨cs, h1, h2⟩ := h
 obtain ⟨A, c, hv, hl, hm⟩ : ∃ A c, v = .slice A ts.length c ∧ ts.length ≤ c ∧ c ≤ maxLen := by
  rcases h1.2 with ⟨e1, h0⟩ | ⟨g, cap, cur, e1, _, _, h4, h5, _⟩
  ·exact ⟨_, _, by rw [h0]; exact e1, by omega, by unfold maxLen; omega⟩
  ·exact ⟨_, _, e1, h4, h5⟩
 subst hv
 exact ⟨A, c, rfl, hl, hm, cs, Rd.of_own h1, h2⟩
theorem own_row_ok {e : TypeId} {sz n : Nat} {xs : List Value} (h : w.ownsRow base e sz v n xs) (hb : b0 ≤ base) (he : e ≠ 112) : ∀ g, v.ownBlock = some g → b0 ≤ g ∧ ∃ t cs, Bk w g t cs ∧ t ≠ 112 := fun g e' => by
 obtain ⟨⟨cs, hk⟩, hg⟩ := own_bk h e'
 exact ⟨ah hb hg, _, _, hk, he⟩
theorem OwnT.fr {A : Option Addr} {n c B : Nat} (h : OwnT w b0 base (.slice A n c) ts) (hb : B ≤ base) : Fr B A := by
 obtain ⟨cs, h1, _⟩ := h
 rcases h1.2 with ⟨e, _⟩ | ⟨g, cap, cur, e, h2, _⟩
 ·injection e with e; subst e; exact Fr.none _
 ·injection e with e; subst e; exact fun ad e => by injection e with e; subst e; exact ah hb h2
theorem OwnT.app {cs ds : List Value} (h1 : w.ownsRow base 68 7 v ts.length cs) (h2 : TCs w b0 ts cs) (h3 : TCs w b0 us ds) (hb : b0 ≤ base) (hg : w.grownBy w' v.ownBlock) (ho : w'.ownsRow base 68 7 v' (ts.length + us.length) (cs ++ ds)) :
    OwnT w' b0 base v' (ts ++ us) := by
 have hr := own_row_ok h1 hb (by decide)
 refine ⟨cs ++ ds, ?_, (h2.grown hg hr).app (h3.grown hg hr)⟩
 rw [List.length_append]; exact ho
end
def RPols (w : World) (b0 : Nat) (A : Option Addr) (ps : List (List TermD)) : Prop :=
 ∃ cs, Rd w w.heap.size 1 A ps.length cs ∧ ∀ (j : Nat) (p : List TermD), ps[j]? = some p → ∃ a c, cs[j]? = some (.slice a p.length c) ∧ p.length ≤ c ∧ RPol w b0 a p
section
variable {w w' : World} {b0 : Nat} {A : Option Addr} {ps : List (List TermD)}
theorem RPols.up (h : RPols w b0 A ps) (hb : Below w.heap.size w w') : RPols w' b0 A ps := by
 obtain ⟨cs, h1, h2⟩ := h
 exact ⟨cs, h1.up hb, fun j p hp => let ⟨a, c, e, hc, hr⟩ := h2 j p hp; ⟨a, c, e, hc, hr.up hb⟩⟩
theorem RPols.get (h : RPols w b0 A ps) {j : Nat} (hj : j < ps.length) : ∃ (ad : Addr) (a : Option Addr) (c : Nat) (p : List TermD), A = some ad ∧ ad.block < w.heap.size ∧ Hd (ps[j]? = some p) ∧ w.cell? (ad.add j) = some (.slice a p.length c) ∧ p.length ≤ c ∧ Hd (RPol w b0 a p) := by
 obtain ⟨cs, h1, h2⟩ := h
 obtain ⟨ad, e, hb, hc⟩ := h1.2 (by omega)
 obtain ⟨a, c, e2, hl, hr⟩ := h2 j ps[j] (ai hj)
 exact ⟨ad, a, c, ps[j], e, hb, ⟨ai hj⟩, hc j _ e2, hl, ⟨hr⟩⟩
theorem RPols.nil (w : World) (b0 : Nat) (A : Option Addr) : RPols w b0 A [] := ⟨[], Rd.nil, fun j p h => by simp at h⟩
end
def polAdd (o : Int) (ps : List (List TermD)) : Int × List TermD := if ps.all (polMay o) = false then (1, []) else polMake o ps.flatten
def shortPs (ps : List (List TermD)) : Prop := ps.length ≤ 10000 ∧ ∀ p ∈ ps, shortP p
theorem polMay_len {o : Int} {p : List TermD} (h : polMay o p = true) : p.length ≤ 60 := by
 unfold polMay at h
 simp only [Bool.and_eq_true, decide_eq_true_eq] at h
 exact h.2.2
theorem flat_le {o : Int} : ∀ {ps : List (List TermD)}, ps.all (polMay o) = true → ps.flatten.length ≤ 60 * ps.length
 | [], _ => by simp
 | p :: ps, h => by
   rw [List.all_cons, Bool.and_eq_true] at h
   have h1 := polMay_len h.1
   have h2 := flat_le h.2
   rw [List.flatten_cons, List.length_append, List.length_cons]
   omega
theorem all_take {f : List TermD → Bool} {ps : List (List TermD)} {i : Nat} {p : List TermD} (hp : ps[i]? = some p) : (ps.take (i + 1)).all f = ((ps.take i).all f && f p) := by
 rw [List.take_add_one, hp, List.all_append]; simp
theorem flat_take {ps : List (List TermD)} {i : Nat} {p : List TermD} (hp : ps[i]? = some p) : (ps.take (i + 1)).flatten = (ps.take i).flatten ++ p := by
 rw [List.take_add_one, hp, List.flatten_append]; simp
theorem Tryz.slTerms : Tryz.prog.underlying 24 = some (.slice 68) := by kernel_rfl
theorem append_two {P : Program} {t t2 ty e e2 : TypeId} {i : TypeInfo} (ht : P.underlying t = some (.slice e)) (ht2 : P.underlying t2 = some (.slice e2)) (hi : P.info? e = some i) (v x : Value) (w : World) :
    (Builtin.append_ #[t, t2] ty #[v, x]).run P w = (Builtin.append_ #[t, t] ty #[v, x]).run P w := by
 cases v <;> simp [Builtin.append_, run_underlying ht, run_underlying ht2, sizeOf, typeInfo, hi]
theorem wpList_append_rd2 {P : Program} (w : World) {ops : Array Oper} {rest : List Oper} {o : Oper} {a : Act} {Q : Exit → Act → World → Prop} (hgd : o.guard = none) (s x : Operand) (t t2 : TypeId)
    (ho : o.op = .call { callee := .builtin .append, args := #[s, x], argTypes := #[t, t2] })
    (base : Nat) (e : TypeId) (i : TypeInfo) (z : Value) (sz bytes : Nat) (ht : P.underlying t = some (.slice e)) (ht2 : P.underlying t2 = some (.slice e)) (hi : P.info? e = some i) (hz : i.zero = some z)
    (hsize : i.size = sz) (hby : i.bytes = bytes) (hzs : z.cells.size = sz) (hsz : 0 < sz)
    (v : Value) (n : Nat) (xs : List Value) (hs : a.eval s = v) (hown : w.ownsRow base e sz v n xs)
    (B : Nat) (A : Option Addr) (m c : Nat) (news : List Value) (hx : a.eval x = .slice A m c) (hr : Rd w B sz A m news) (h1 : ∀ u ∈ news, u.oneCell' = true)
    (h63 : n + m ≤ maxLen) (hbytes : (n + m) * bytes ≤ 140737488355328) (hbase : base ≤ w.heap.size)
    (h : ∀ v' w', w'.ownsRow base e sz v' (n + m) (xs ++ news) → w.grownBy w' v.ownBlock → (v'.ownBlock = v.ownBlock ∨ v'.ownBlock = some w.heap.size) → wpList P ops Q rest (a.put o.dst v') w') : wpList P ops Q (o :: rest) a w := by
 refine wpList_plain hgd fun K hK => ?_
 obtain ⟨v', w', hrun, h2, h3, h4⟩ := run_append_rd (P := P) w base t o.type e i z sz bytes ht hi hz hsize hby hzs hsz v n xs hown B A m c news hr h1 h63 hbytes hbase
 unfold Oper.wp execOp
 simp only [ho, resolve, invoke, builtin, Sem.run_bind, Sem.run_pure, Result.andThen_ok, List.map_toArray, List.map_cons, List.map_nil, hs, hx]
 rw [append_two ht ht2 hi, hrun]
 exact hK _ _ (h v' w' h2 h3 h4)
theorem poly_AddF (b0 : Nat) (order : Int) (A : Option Addr) (c : Nat) (ps : List (List TermD)) (w : World) (hb0 : b0 ≤ w.heap.size) (h : RPols w b0 A ps) (hc : ps.length ≤ c) (hs : shortPs ps) :
    Calls Tryz.prog 99 #[.int .i64 order, .slice A ps.length c] w fun e w' => ∃ A' c', e = .returned (.tuple #[.slice A' (polAdd order ps).2.length c', .int .i64 (polAdd order ps).1]) ∧
     (polAdd order ps).2.length ≤ c' ∧ RPol w' b0 A' (polAdd order ps).2 ∧ Below w.heap.size w w' ∧ Fr w.heap.size A' := by
 have HP := aa h
 have HS := aa hs
 have HB0 := aa hb0
 have hl := hs.1
 clear h hs hb0
 go_enter Tryz.func99, Tryz.ntmps99
 go_wp2_with fail
 go_loopw [6, 11] (fun v6 v11 wr => ∃ i : Nat, v11 = .int .i64 i ∧ i ≤ ps.length ∧ Hd (OwnT wr b0 w.heap.size v6 (ps.take i).flatten) ∧ Hd ((ps.take i).all (polMay order) = true) ∧ Hd (Below w.heap.size w wr)) (fun _ v _ => ps.length - (intOf v).toNat)
 case atStart => exact ⟨0, rfl, by omega, ⟨OwnT.nil _ _ _⟩, ⟨rfl⟩, ⟨.refl _ _⟩⟩
 case round =>
  obtain ⟨i, rfl, hi, ho, ha, hb⟩ := hrel
  by_cases hlt : i < ps.length
  ·obtain ⟨ad, a, pc, p, rfl, hab, hp, hcell, hpc, hrp⟩ := (HP.out.up hb.out).get hlt
   have i2 : (i : Int) < ps.length := by omega
   have i3 : (0 : Int) ≤ i := by omega
   have hsp := aa (HS.out.2 p (List.mem_of_getElem? hp.out))
   have CM := aa (poly_May b0 order a pc p wr hrp.out hpc hsp.out)
   have HA : Hd ((ps.take (i + 1)).all (polMay order) = ((ps.take i).all (polMay order) && polMay order p)) := ⟨all_take hp.out⟩
   have HF : Hd ((ps.take (i + 1)).flatten = (ps.take i).flatten ++ p) := ⟨flat_take hp.out⟩
   cases hm : polMay order p
   ·rw [hm] at CM HA
    have HE : Hd (polAdd order ps = (1, [])) := ⟨by
     have h1 : ps.all (polMay order) = false := List.all_eq_false.2 ⟨p, List.mem_of_getElem? hp.out, by rw [hm]; simp⟩
     unfold polAdd; rw [if_pos h1]⟩
    clear hm
    go_wp2_with fail
    refine CM.out.mono ?_
    rintro e w4 ⟨rfl, hb4⟩
    have HB4 := aa (hb.out.trans (hb4.mono hb.out.size))
    clear hb4
    go_wp2_with fail
    go_ret2
    rw [HE.out]
    exact ⟨none, 0, rfl, ae _, RPol.nil _ _ _, HB4.out, Fr.none _⟩
   ·rw [hm] at CM HA
    have hpl := polMay_len hm
    have hfl := flat_le ha.out
    have hti : (ps.take i).length ≤ i := List.length_take_le _ _
    have hfn : (ps.take i).flatten.length ≤ 600000 := by omega
    obtain ⟨F, hF⟩ : ∃ F, (ps.take i).flatten = F := ⟨_, rfl⟩
    rw [hF] at ho HF hfn
    clear hF hfl hti
    clear hm
    go_wp2_with fail
    refine CM.out.mono ?_
    rintro e w4 ⟨rfl, hb4⟩
    have HB4 := aa (hb.out.trans (hb4.mono hb.out.size))
    obtain ⟨cs4, o1, o2⟩ := ho.out.up hb4
    obtain ⟨ds4, r1, r2⟩ := hrp.out.up hb4
    have O1 := aa o1
    have O2 := aa o2
    have R1 := aa r1
    have R2 := aa r2
    obtain ⟨Av, cv, hv, _, _, _⟩ := ho.out.reads
    subst hv
    clear hb4 o1 o2 r1 r2 CM hcell
    obtain ⟨i0, hi0, hz0, hz1, hz2⟩ := info_split Tryz.infTerm
    have x63 : F.length + p.length ≤ maxLen := by unfold maxLen; omega
    have xby : (F.length + p.length) * 88 ≤ 140737488355328 := by omega
    go_wp2_with (at_builtin; refine wpList_append_rd2 _ rfl _ _ 24 25 rfl w.heap.size 68 i0 _ 7 88 Tryz.slTerms Tryz.slPoly hi0 hz0 hz1 hz2 rfl (by decide) _ F.length cs4 rfl O1.out _ _ p.length _ ds4 rfl R1.out R2.out.one x63 xby HB4.out.size ?_)
    intro v' w6 ho6 hg6 hv6
    have O6 := aa (OwnT.app O1.out O2.out R2.out HB0.out hg6 ho6)
    have HB6 := aa (grown_below O1.out hg6 HB4.out HB4.out.size)
    clear ho6 hg6 hv6 hi0 hz0 hz1 hz2 x63 xby
    go_wp2_with fail
    go_roundw
    case measure => first | (simp [intOf]; done) | (simp [intOf]; omega)
    case rel => exact ⟨i + 1, by go_num, by omega, ⟨by rw [HF.out]; exact O6.out⟩, ⟨by rw [HA.out, ha.out]; rfl⟩, HB6⟩
  ·have hie : i = ps.length := by omega
   subst hie
   have hfl := flat_le ha.out
   rw [List.take_length] at ho ha hfl
   have HE : Hd (polAdd order ps = polMake order ps.flatten) := ⟨by unfold polAdd; rw [ha.out]; rfl⟩
   have hsf : shortP ps.flatten := ⟨by omega, fun t ht => by
    obtain ⟨p, hp, htp⟩ := List.mem_flatten.1 ht
    exact (HS.out.2 p hp).2 t htp⟩
   obtain ⟨F, hF⟩ : ∃ F, ps.flatten = F := ⟨_, rfl⟩
   rw [hF] at ho HE hsf
   clear hF hfl
   obtain ⟨Av, cv, rfl, hcv, _, hr⟩ := ho.out.reads
   have CK := aa (poly_MakeF b0 order Av cv F wr (ah HB0.out hb.out.size) hr hcv hsf)
   clear hr hsf
   go_wp2_with fail
   refine CK.out.mono ?_
   rintro e w4 ⟨A', c', rfl, hc', hr', hb4, hfr⟩
   have HFR := aa (hfr.le hb.out.size)
   have HC' := aa hc'
   have HR' := aa hr'
   have HB4 := aa (hb.out.trans (hb4.mono hb.out.size))
   clear hb4 hc' hr' hfr
   go_wp2_with fail
   go_ret2
   rw [HE.out]
   exact ⟨A', c', rfl, HC'.out, HR'.out, HB4.out, HFR.out⟩
theorem poly_Add (b0 : Nat) (order : Int) (A : Option Addr) (c : Nat) (ps : List (List TermD)) (w : World) (hb0 : b0 ≤ w.heap.size) (h : RPols w b0 A ps) (hc : ps.length ≤ c) (hs : shortPs ps) :
    Calls Tryz.prog 99 #[.int .i64 order, .slice A ps.length c] w fun e w' => ∃ A' c', e = .returned (.tuple #[.slice A' (polAdd order ps).2.length c', .int .i64 (polAdd order ps).1]) ∧
     (polAdd order ps).2.length ≤ c' ∧ RPol w' b0 A' (polAdd order ps).2 ∧ Below w.heap.size w w' :=
 (poly_AddF b0 order A c ps w hb0 h hc hs).mono fun _ _ ⟨A', c', h1, h2, h3, h4, _⟩ => ⟨A', c', h1, h2, h3, h4⟩
def timesL (t : TermD) : List TermD → Int × List TermD
 | [] => (0, [])
 | s :: r => if (mulD s.c t.c).1 ≠ 0 then ((mulD s.c t.c).1, []) else if (monMul s.m t.m).1 ≠ 0 then ((monMul s.m t.m).1, [])
   else if (timesL t r).1 ≠ 0 then ((timesL t r).1, []) else (0, ⟨(mulD s.c t.c).2, (monMul s.m t.m).2⟩ :: (timesL t r).2)
def polTimes (o : Int) (p : List TermD) (t : TermD) : Int × List TermD :=
 if (polMay o p && right t) = false then (1, []) else if t.c.num.length = 0 then (0, []) else timesL t p
def appD (ds : List TermD) (q : Int × List TermD) : Int × List TermD := if q.1 ≠ 0 then (q.1, []) else (0, ds ++ q.2)
theorem timesL_ok (t : TermD) (p : List TermD) : (timesL t p).1 ≠ 0 → (timesL t p).2 = [] := by
 cases p with
 | nil => intro h; exact absurd rfl h
 | cons s r =>
   unfold timesL
   split
   ·intro _; rfl
   ·split
    ·intro _; rfl
    ·split
     ·intro _; rfl
     ·intro h; exact absurd rfl h
theorem appD_nil (t : TermD) (p : List TermD) : appD [] (timesL t p) = timesL t p := by
 unfold appD
 by_cases h : (timesL t p).1 ≠ 0
 ·rw [if_pos h]; exact Prod.ext rfl (timesL_ok t p h).symm
 ·rw [if_neg h]; exact Prod.ext (by simpa using (Classical.not_not.1 h).symm) rfl
theorem appD_step {t s : TermD} {ds r : List TermD} (h1 : (mulD s.c t.c).1 = 0) (h2 : (monMul s.m t.m).1 = 0) : appD ds (timesL t (s :: r)) = appD (ds ++ [⟨(mulD s.c t.c).2, (monMul s.m t.m).2⟩]) (timesL t r) := by
 conv => lhs; unfold timesL
 rw [if_neg (by rw [h1]; simp), if_neg (by rw [h2]; simp)]
 unfold appD
 by_cases h : (timesL t r).1 ≠ 0
 ·rw [if_pos h]
  simp [h]
 ·rw [if_neg h]
  simp [h]
def zc7 : List Value := [.bool false, .slice none 0 0, .slice none 0 0, .int .i64 0, .int .i64 0, .int .i64 0, .int .i64 0]
def zrest (m : Nat) : List Value := (List.replicate m zc7).flatten
theorem zrest_succ (m : Nat) : zrest (m + 1) = zc7 ++ zrest m := by simp [zrest, List.replicate_succ]
theorem zrest_len (m : Nat) : (zrest m).length = m * 7 := by
 induction m with
 | zero => rfl
 | succ m ih => rw [zrest_succ, List.length_append, ih, show zc7.length = 7 from rfl]; omega
theorem zrest_get : ∀ (m j : Nat), j < m * 7 → (zrest m)[j]? = zc7[j % 7]?
 | 0, j, h => by omega
 | m + 1, j, h => by
   rw [zrest_succ]
   rcases Nat.lt_or_ge j 7 with h7 | h7
   ·rw [List.getElem?_append_left (by exact h7), Nat.mod_eq_of_lt h7]
   ·rw [List.getElem?_append_right (by exact h7), show zc7.length = 7 from rfl, zrest_get m (j - 7) (by omega), show j % 7 = (j - 7) % 7 by omega]
theorem made_terms (n : Nat) : (madeCells (Value.agg #[.bool false, .slice none 0 0, .slice none 0 0, .int .i64 0, .int .i64 0, .int .i64 0, .int .i64 0]).cells (n * 7)).toList = zrest n := by
 apply List.ext_getElem?
 intro j
 rcases Nat.lt_or_ge j (n * 7) with h | h
 ·rw [zrest_get n j h]
  have e7 : j % 7 < 7 := Nat.mod_lt _ (by decide)
  have : (madeCells (Value.agg #[.bool false, .slice none 0 0, .slice none 0 0, .int .i64 0, .int .i64 0, .int .i64 0, .int .i64 0]).cells (n * 7)).toList[j]? = some ((zc7.toArray)[j % 7]!) := by
   unfold madeCells
   simp [h, zc7, Value.cells]
  rw [this]
  generalize j % 7 = k at e7
  match k, e7 with
  | 0, _ => rfl
  | 1, _ => rfl
  | 2, _ => rfl
  | 3, _ => rfl
  | 4, _ => rfl
  | 5, _ => rfl
  | 6, _ => rfl
 ·rw [List.getElem?_eq_none (by rw [Array.length_toList, size_madeCells]; exact h), List.getElem?_eq_none (by rw [zrest_len]; exact h)]
structure Tm (b0 g gb n c i : Nat) (w0 w : World) (tc : Array Value) (ds : List TermD) (done zc rest : List Value) : Prop where
 below : Below w0.heap.size w0 w
 s0 : b0 ≤ w0.heap.size
 box : Bk w gb 68 tc
 s2 : w0.heap.size ≤ gb
 ne : gb ≠ g
 own : w.ownsRow w0.heap.size 68 7 (.slice (some ⟨g, 0, none⟩) n c) n (done ++ (zc ++ rest))
 dl : done.length = i * 7
 tcs : TCs w b0 ds done
section
variable {b0 g gb n c i : Nat} {w0 w w' : World} {tc : Array Value} {ds : List TermD} {done zc rest : List Value}
theorem Tm.up (h : Tm b0 g gb n c i w0 w tc ds done zc rest) (hb : Below w.heap.size w w') : Tm b0 g gb n c i w0 w' tc ds done zc rest :=
 ⟨h.below.trans (hb.mono h.below.size), h.s0, h.box.up hb, h.s2, h.ne, own_below h.own hb, h.dl, h.tcs.up hb⟩
theorem Tm.bk (h : Tm b0 g gb n c i w0 w tc ds done zc rest) : (∃ cs, Bk w g 68 cs) ∧ w0.heap.size ≤ g := own_bk h.own rfl
theorem Tm.row (h : Tm b0 g gb n c i w0 w tc ds done zc rest) : ∀ g', some g = some g' → b0 ≤ g' ∧ ∃ t cs, Bk w g' t cs ∧ t ≠ 112 := fun g' e => own_row_ok h.own h.s0 (by decide) g' (by rw [← e]; rfl)
theorem Tm.setc (h : Tm b0 g gb n c i w0 w tc ds done zc rest) (k : Nat) (hk : k < zc.length) (u : Value) : Tm b0 g gb n c i w0 (w.setCell ⟨g, i * 7 + k, none⟩ u) tc ds done (zc.set k u) rest := by
 have h1 := (World.ownsRow.stored h.own (i * 7 + k) u).1
 refine ⟨h.below.setCell h.bk.2 u, h.s0, h.box.far h.ne u, h.s2, h.ne, ?_, h.dl, h.tcs.grown (set_grown w ⟨g, i * 7 + k, none⟩ u) h.row⟩
 rw [List.set_append_right _ _ (by rw [h.dl]; omega), h.dl, show i * 7 + k - i * 7 = k by omega, List.set_append_left _ _ hk] at h1
 exact h1
theorem Tm.cell (h : Tm b0 g gb n c i w0 w tc ds done zc rest) (k : Nat) (hk : k < zc.length) (hi : i * 7 + k < n * 7) : w.cell? ⟨g, i * 7 + k, none⟩ = zc[k]? := by
 rw [World.ownsRow.cellAt h.own _ hi, List.getElem?_append_right (by rw [h.dl]; omega), h.dl, show i * 7 + k - i * 7 = k by omega, List.getElem?_append_left hk]
theorem Tm.froz (h : Tm b0 g gb n c i w0 w tc ds done zc rest) (j : Nat) : w.frozen? ⟨g, j, none⟩ = false := World.ownsRow.frozenAt h.own j
theorem Tm.done_ (h : Tm b0 g gb n c i w0 w tc ds done zc rest) {s : TermD} (hs : TC w b0 s zc) {rest1 rest2 : List Value} (hr : rest = rest1 ++ rest2) : Tm b0 g gb n c (i + 1) w0 w tc (ds ++ [s]) (done ++ zc) rest1 rest2 := by
 refine ⟨h.below, h.s0, h.box, h.s2, h.ne, ?_, ?_, ?_⟩
 ·have := h.own
  rw [hr] at this
  simpa using this
 ·rw [List.length_append, h.dl, hs.len]; omega
 ·have := h.tcs.app (.cons hs .nil)
  simpa using this
end
def zeroTermV : Value := .agg #[.bool false, .slice none 0 0, .slice none 0 0, .int .i64 0, .int .i64 0, .int .i64 0, .int .i64 0]
def zrow (n : Nat) : Array Value := madeCells zeroTermV.cells (n * 7)
theorem mkTerms (n : Nat) (N : Int) (hN : N = n) (h9 : n ≤ 1000000) (w : World) :
    (Instr.makeSlice 25 (.int .i64 N) (.int .i64 N)).run Tryz.prog w = .ok (.slice (some ⟨w.heap.size, 0, none⟩) n n) (w.alloc (.cells (zrow n) 68)) := by
 subst hN
 obtain ⟨i0, hi, hz0, hz1, hz2⟩ := info_split Tryz.infTerm
 have hr := run_make (P := Tryz.prog) w 25 68 i0 _ Tryz.slPoly hi hz0 .i64 .i64 n n (by omega) (Int.le_refl _) (by rw [hz2]; omega) (by omega)
 simp only [Int.toNat_natCast, hz1] at hr
 exact hr
theorem own_made (n : Nat) (h9 : n ≤ 1000000) (w : World) (base : Nat) (hb : base ≤ w.heap.size) : (w.alloc (.cells (zrow n) 68)).ownsRow base 68 7 (.slice (some ⟨w.heap.size, 0, none⟩) n n) n (zrest n) := by
 have := World.ownsRow_lit (e := 68) (size := 7) w (zrow n) n hb (by unfold maxLen; omega) (size_madeCells _ _)
 rw [show (zrow n).toList = zrest n from made_terms n] at this
 exact this
theorem poly_TimesF (b0 : Nat) (order : Int) (A : Option Addr) (c : Nat) (ps : List TermD) (v : Value) (t : TermD) (w : World) (hb0 : b0 ≤ w.heap.size) (h : RPol w b0 A ps) (hc : ps.length ≤ c) (hs : shortP ps) (ht : RTerm w b0 v t) (hts : t.c.short) :
    Calls Tryz.prog 98 #[.int .i64 order, .slice A ps.length c, v] w fun e w' => ∃ A' c', e = .returned (.tuple #[.slice A' (polTimes order ps t).2.length c', .int .i64 (polTimes order ps t).1]) ∧
     (polTimes order ps t).2.length ≤ c' ∧ RPol w' b0 A' (polTimes order ps t).2 ∧ Below w.heap.size w w' ∧ Fr w.heap.size A' := by
 have HP := aa h
 have HS := aa hs
 have HB0 := aa hb0
 have HT := aa ht
 have HTS := aa hts
 have hl := hs.1
 obtain ⟨T1, tc1, T2, tc2, rfl, g1, g2, g3, g4⟩ := ht
 have HRR : Hd (RRat w b0 (.agg #[.bool t.c.neg, .slice T1 t.c.num.length tc1, .slice T2 t.c.den.length tc2]) t.c) := ⟨⟨_, _, _, _, rfl, g1, g2, g3, g4⟩⟩
 clear h hs hb0 hts g1 g2 g3 g4
 go_enter Tryz.func98, Tryz.ntmps98
 go_upto_region 1 with (fail)
 refine wp_gen (fun W => Below w.heap.size w W ∧ Bk W w.heap.size 68 #[.bool t.c.neg, .slice T1 t.c.num.length tc1, .slice T2 t.c.den.length tc2, .int .i64 t.m.x0, .int .i64 t.m.x1, .int .i64 t.m.x2, .int .i64 t.m.x3]) ⟨(ag _ _).alloc (ae _) _, Bk.new_ _ _ _⟩ ?_
 intro W BX
 have CM := aa (poly_May b0 order A c ps W (HP.out.up BX.out.1) hc HS.out)
 cases hm : polMay order ps
 ·rw [hm] at CM
  have HE : Hd (polTimes order ps t = (1, [])) := ⟨by unfold polTimes; rw [hm]; rfl⟩
  clear hm
  go_wp2_with fail
  refine CM.out.mono ?_
  rintro e w2 ⟨rfl, hb2⟩
  have HB2 := aa (BX.out.1.trans (hb2.mono BX.out.1.size))
  clear hb2
  go_wp2_with fail
  go_ret2
  rw [HE.out]
  exact ⟨none, 0, rfl, ae _, RPol.nil _ _ _, HB2.out, Fr.none _⟩
 ·rw [hm] at CM
  have hpl := polMay_len hm
  go_wp2_with fail
  refine CM.out.mono ?_
  rintro e w2 ⟨rfl, hb2⟩
  have HB2 := aa (BX.out.1.trans (hb2.mono BX.out.1.size))
  have K2 := aa (BX.out.2.up hb2)
  obtain ⟨⟨a0_, a1_, a2_⟩, a3_, a4_, a5_, a6_⟩ := K2.out.seven
  have CR := aa (poly_right b0 _ t w2 (HT.out.up HB2.out) HTS.out)
  clear hb2 CM BX
  cases hr : right t
  ·rw [hr] at CR
   have HE : Hd (polTimes order ps t = (1, [])) := ⟨by unfold polTimes; rw [hm, hr]; rfl⟩
   clear hm hr
   go_wp2_with fail
   refine CR.out.mono ?_
   rintro e w3 ⟨rfl, hb3⟩
   have HB3 := aa (HB2.out.trans (hb3.mono HB2.out.size))
   clear hb3
   go_wp2_with fail
   go_ret2
   rw [HE.out]
   exact ⟨none, 0, rfl, ae _, RPol.nil _ _ _, HB3.out, Fr.none _⟩
  ·rw [hr] at CR
   go_wp2_with fail
   refine CR.out.mono ?_
   rintro e w3 ⟨rfl, hb3⟩
   have HB3 := aa (HB2.out.trans (hb3.mono HB2.out.size))
   have K3 := aa (K2.out.up hb3)
   clear hb3 a0_ a1_ a2_ a3_ a4_ a5_ a6_ K2 HB2 CR
   obtain ⟨⟨a0_, a1_, a2_⟩, a3_, a4_, a5_, a6_⟩ := K3.out.seven
   have CZ := aa (ratio_Zero b0 _ t.c w3 (HRR.out.up HB3.out))
   cases hz : decide (t.c.num.length = 0)
   ·rw [hz] at CZ
    have HE : Hd (polTimes order ps t = timesL t ps) := ⟨by
     unfold polTimes
     rw [hm, hr, if_neg (by simp), if_neg (of_decide_eq_false hz)]⟩
    clear hm hr hz
    go_wp2_with fail
    refine CZ.out.mono ?_
    rintro e w4 ⟨rfl, hb4⟩
    have HB4 := aa (HB3.out.trans (hb4.mono HB3.out.size))
    have K4 := aa (K3.out.up hb4)
    clear hb4 a0_ a1_ a2_ a3_ a4_ a5_ a6_ K3 HB3 CZ
    have hmk := mkTerms ps.length ps.length rfl (by omega) w4
    go_wp2_with fail
    clear hmk
    have hbn : Below w4.heap.size w4 (w4.alloc (.cells (zrow ps.length) 68)) := (ag _ _).alloc (ae _) _
    have hgn : w.heap.size ≠ w4.heap.size := Nat.ne_of_lt K4.out.lt
    go_loopw [32] (fun v wr => ∃ (i : Nat) (ds : List TermD) (done : List Value), v = .int .i64 i ∧ i ≤ ps.length ∧
     Hd (Tm b0 w4.heap.size w.heap.size ps.length ps.length i w wr #[.bool t.c.neg, .slice T1 t.c.num.length tc1, .slice T2 t.c.den.length tc2, .int .i64 t.m.x0, .int .i64 t.m.x1, .int .i64 t.m.x2, .int .i64 t.m.x3] ds done [] (zrest (ps.length - i))) ∧ Hd (timesL t ps = appD ds (timesL t (ps.drop i)))) (fun v _ => ps.length - (intOf v).toNat)
    case atStart =>
     refine ⟨0, [], [], rfl, by omega, ⟨⟨HB4.out.trans (hbn.mono HB4.out.size), HB0.out, K4.out.up hbn, ae _, hgn, ?_, rfl, .nil⟩⟩, ⟨(appD_nil t ps).symm⟩⟩
     exact own_made ps.length (by omega) w4 w.heap.size HB4.out.size
    case round =>
     obtain ⟨i, ds, done, rfl, hi, hk, hq⟩ := hrel
     obtain ⟨g, hg⟩ : ∃ g, w4.heap.size = g := ⟨_, rfl⟩
     rw [hg] at hk hgn ⊢
     clear hg hbn HB4 K4
     by_cases hlt : i < ps.length
     ·obtain ⟨ad, B1, c1, B2, c2, s, rfl, hab, hsi, hrs, q0, q1, q2, q3, q4, q5, q6⟩ := (HP.out.up hk.out.below).get hlt
      have i2 : (i : Int) < ps.length := by omega
      have i3 : (0 : Int) ≤ i := by omega
      have hsm : Hd (s ∈ ps) := ⟨List.mem_of_getElem? hsi.out⟩
      have HD : Hd (ps.drop i = s :: ps.drop (i + 1)) := ⟨by
       have e1 : ps[i] = s := by have := hsi.out; rw [ai hlt] at this; injection this
       rw [List.drop_eq_getElem_cons hlt, e1]⟩
      clear hsi
      go_upto_region 10 with (fail)
      refine wp_gen (fun W => Below wr.heap.size wr W ∧ Tm b0 g w.heap.size ps.length ps.length i w W #[.bool t.c.neg, .slice T1 t.c.num.length tc1, .slice T2 t.c.den.length tc2, .int .i64 t.m.x0, .int .i64 t.m.x1, .int .i64 t.m.x2, .int .i64 t.m.x3] ds done zc7 (zrest (ps.length - (i + 1))) ∧ Bk W wr.heap.size 68 #[.bool s.c.neg, .slice B1 s.c.num.length c1, .slice B2 s.c.den.length c2, .int .i64 s.m.x0, .int .i64 s.m.x1, .int .i64 s.m.x2, .int .i64 s.m.x3])
       ⟨(ag _ _).alloc (ae _) _, by
        have h1 := hk.out.up ((ag wr.heap.size wr).alloc (ae _) (Obj.cells #[.bool s.c.neg, .slice B1 s.c.num.length c1, .slice B2 s.c.den.length c2, .int .i64 s.m.x0, .int .i64 s.m.x1, .int .i64 s.m.x2, .int .i64 s.m.x3] 68))
        have h2 := h1.own
        rw [show ps.length - i = (ps.length - (i + 1)) + 1 by omega, zrest_succ, List.nil_append] at h2
        exact ⟨h1.below, h1.s0, h1.box, h1.s2, h1.ne, h2, h1.dl, h1.tcs⟩, Bk.new_ _ _ _⟩ ?_
      intro W BY
      have HRS : Hd (RRat W b0 (.agg #[.bool s.c.neg, .slice B1 s.c.num.length c1, .slice B2 s.c.den.length c2]) s.c) := ⟨by
       have hr2 := hrs.out.up BY.out.1
       obtain ⟨x1, x2, x3, x4, e, y1, y2, y3, y4⟩ := hr2
       simp only [Value.agg.injEq, Array.mk.injEq, List.cons.injEq, Value.slice.injEq, true_and, and_true] at e
       obtain ⟨⟨rfl, rfl⟩, rfl, rfl⟩ := e
       exact ⟨_, _, _, _, rfl, y1, y2, y3, y4⟩⟩
      have hgs : Hd (wr.heap.size ≠ g) := ⟨fun e => by
       obtain ⟨⟨cs, hk2⟩, _⟩ := hk.out.bk
       have := hk2.lt
       omega⟩
      obtain ⟨gs, hgs'⟩ : ∃ gs, wr.heap.size = gs := ⟨_, rfl⟩
      rw [hgs'] at hgs
      have HY := aa BY.out.2.1
      have HYs := aa (show Bk W gs 68 _ from hgs' ▸ BY.out.2.2)
      rw [hgs']
      clear hgs' hrs q0 q1 q2 q3 q4 q5 q6 hab hk BY
      obtain ⟨S, hS⟩ : ∃ S, mulD s.c t.c = S := ⟨_, rfl⟩
      obtain ⟨M, hM⟩ : ∃ M, monMul s.m t.m = M := ⟨_, rfl⟩
      have HSM := aa (af hS hM)
      have CA := aa (ratio_Mul b0 _ _ s.c t.c W (ah HB0.out HY.out.below.size) HRS.out (HRR.out.up HY.out.below) (HS.out.2 s hsm.out) HTS.out)
      have CB := aa (fun W => mono_Mul s.m t.m W)
      rw [hS] at CA
      rw [hM] at CB
      clear hS hM HRS
      obtain ⟨⟨a0_, a1_, a2_⟩, a3_, a4_, a5_, a6_⟩ := HYs.out.seven
      obtain ⟨⟨b0_, b1_, b2_⟩, b3_, b4_, b5_, b6_⟩ := HY.out.box.seven
      go_wp2_with fail
      refine CA.out.mono ?_
      rintro e w5 ⟨x, rfl, hx, hb5⟩
      have Y5 := aa (HY.out.up hb5)
      have Ys5 := aa (HYs.out.up hb5)
      have HX5 := aa hx
      obtain ⟨xA, xc, xB, xd, rfl, _, _, _, _⟩ := hx
      clear hb5 CA HY HYs a0_ a1_ a2_ a3_ a4_ a5_ a6_ b0_ b1_ b2_ b3_ b4_ b5_ b6_
      have hi7 : i * 7 + 6 < ps.length * 7 := by omega
      have d0_ : w5.cell? ⟨g, i * 7, none⟩ = some (.bool false) := Y5.out.cell 0 (by decide) (by omega)
      have d1_ : w5.cell? ⟨g, i * 7 + 1, none⟩ = some (.slice none 0 0) := Y5.out.cell 1 (by decide) (by omega)
      have d2_ : w5.cell? ⟨g, i * 7 + 2, none⟩ = some (.slice none 0 0) := Y5.out.cell 2 (by decide) (by omega)
      have fz := fun j => Y5.out.froz j
      go_upto_region 11 with (fail)
      refine wp_gen (fun W => Tm b0 g w.heap.size ps.length ps.length i w W #[.bool t.c.neg, .slice T1 t.c.num.length tc1, .slice T2 t.c.den.length tc2, .int .i64 t.m.x0, .int .i64 t.m.x1, .int .i64 t.m.x2, .int .i64 t.m.x3] ds done [.bool S.2.neg, .slice xA S.2.num.length xc, .slice xB S.2.den.length xd, .int .i64 0, .int .i64 0, .int .i64 0, .int .i64 0] (zrest (ps.length - (i + 1))) ∧ Bk W gs 68 #[.bool s.c.neg, .slice B1 s.c.num.length c1, .slice B2 s.c.den.length c2, .int .i64 s.m.x0, .int .i64 s.m.x1, .int .i64 s.m.x2, .int .i64 s.m.x3] ∧
       RRat W b0 (.agg #[.bool S.2.neg, .slice xA S.2.num.length xc, .slice xB S.2.den.length xd]) S.2)
       ⟨((Y5.out.setc 0 (by simp [zc7]) _).setc 1 (by simp [zc7]) _).setc 2 (by simp [zc7]) _, ((Ys5.out.far hgs.out _).far hgs.out _).far hgs.out _, HX5.out.grown (((set_grown w5 ⟨g, i * 7, none⟩ _).set _ _).set _ _) Y5.out.row⟩ ?_
      intro W6 B6
      clear d0_ d1_ d2_ fz Y5 Ys5 HX5
      obtain ⟨⟨a0_, a1_, a2_⟩, a3_, a4_, a5_, a6_⟩ := B6.out.2.1.seven
      obtain ⟨⟨b0_, b1_, b2_⟩, b3_, b4_, b5_, b6_⟩ := B6.out.1.box.seven
      go_wp2_with fail
      refine (CB.out W6).mono ?_
      rintro e w7 ⟨rfl, hb7⟩
      have Y7 := aa (B6.out.1.up hb7.lo)
      have X7 := aa (B6.out.2.2.up hb7.lo)
      clear hb7 CB B6 a0_ a1_ a2_ a3_ a4_ a5_ a6_ b0_ b1_ b2_ b3_ b4_ b5_ b6_
      have d3_ : w7.cell? ⟨g, i * 7 + 3, none⟩ = some (.int .i64 0) := Y7.out.cell 3 (by simp) (by omega)
      have d4_ : w7.cell? ⟨g, i * 7 + 3 + 1, none⟩ = some (.int .i64 0) := Y7.out.cell 4 (by simp) (by omega)
      have d5_ : w7.cell? ⟨g, i * 7 + 3 + 2, none⟩ = some (.int .i64 0) := Y7.out.cell 5 (by simp) (by omega)
      have d6_ : w7.cell? ⟨g, i * 7 + 3 + 3, none⟩ = some (.int .i64 0) := Y7.out.cell 6 (by simp) (by omega)
      have fz := fun j => Y7.out.froz j
      go_upto_region 12 with (fail)
      refine wp_gen (fun W => Tm b0 g w.heap.size ps.length ps.length i w W #[.bool t.c.neg, .slice T1 t.c.num.length tc1, .slice T2 t.c.den.length tc2, .int .i64 t.m.x0, .int .i64 t.m.x1, .int .i64 t.m.x2, .int .i64 t.m.x3] ds done [.bool S.2.neg, .slice xA S.2.num.length xc, .slice xB S.2.den.length xd, .int .i64 M.2.x0, .int .i64 M.2.x1, .int .i64 M.2.x2, .int .i64 M.2.x3] (zrest (ps.length - (i + 1))) ∧
       RRat W b0 (.agg #[.bool S.2.neg, .slice xA S.2.num.length xc, .slice xB S.2.den.length xd]) S.2)
       ⟨(((Y7.out.setc 3 (by simp) _).setc 4 (by simp) _).setc 5 (by simp) _).setc 6 (by simp) _, X7.out.grown ((((set_grown w7 ⟨g, i * 7 + 3, none⟩ _).set _ _).set _ _).set _ _) Y7.out.row⟩ ?_
      intro W8 B8
      clear d3_ d4_ d5_ d6_ fz Y7 X7
      by_cases h0 : S.1 = 0
      ·have e1 : (S.1 != 0) = false := by rw [bne_eq_false_iff_eq]; exact h0
       by_cases h1 : M.1 = 0
       ·have e2 : (M.1 != 0) = false := by rw [bne_eq_false_iff_eq]; exact h1
        have HQ : Hd (timesL t ps = appD (ds ++ [⟨S.2, M.2⟩]) (timesL t (ps.drop (i + 1)))) := ⟨by
         rw [hq.out, HD.out, appD_step (by rw [HSM.out.1]; exact h0) (by rw [HSM.out.2]; exact h1), HSM.out.1, HSM.out.2]⟩
        clear h0 h1
        have T9 := aa (B8.out.1.done_ (s := ⟨S.2, M.2⟩) (by
         obtain ⟨x1, x2, x3, x4, e, y1, y2, y3, y4⟩ := B8.out.2
         simp only [Value.agg.injEq, Array.mk.injEq, List.cons.injEq, Value.slice.injEq, true_and, and_true] at e
         obtain ⟨⟨rfl, rfl⟩, rfl, rfl⟩ := e
         exact ⟨_, _, _, _, rfl, y1, y2, y3, y4⟩) (rest1 := []) rfl)
        go_wp2_with fail
        go_roundw
        case measure => first | (simp [intOf]; done) | (simp [intOf]; omega)
        case rel => exact ⟨i + 1, _, _, by go_num, by omega, T9, HQ⟩
       ·have e2 : (M.1 != 0) = true := by rw [bne_iff_ne]; exact h1
        have HQ : Hd (timesL t ps = (M.1, [])) := ⟨by
         rw [hq.out, HD.out]
         unfold timesL
         rw [HSM.out.1, HSM.out.2, if_neg (by rw [h0]; simp), if_pos h1]
         unfold appD
         rw [if_pos h1]⟩
        clear h0 h1
        go_wp2_with fail
        go_ret2
        rw [HE.out, HQ.out]
        exact ⟨none, 0, rfl, ae _, RPol.nil _ _ _, B8.out.1.below, Fr.none _⟩
      ·have e1 : (S.1 != 0) = true := by rw [bne_iff_ne]; exact h0
       have HQ : Hd (timesL t ps = (S.1, [])) := ⟨by
        rw [hq.out, HD.out]
        unfold timesL
        rw [HSM.out.1, if_pos h0]
        unfold appD
        rw [if_pos h0]⟩
       clear h0
       go_wp2_with fail
       go_ret2
       rw [HE.out, HQ.out]
       exact ⟨none, 0, rfl, ae _, RPol.nil _ _ _, B8.out.1.below, Fr.none _⟩
     ·have hie : i = ps.length := by omega
      subst hie
      have HQ : Hd (timesL t ps = (0, ds)) := ⟨by
       rw [hq.out, List.drop_length]
       simp [timesL, appD]⟩
      have hown := hk.out.own
      rw [Nat.sub_self, show zrest 0 = [] from rfl, List.append_nil, List.append_nil] at hown
      have hdl : ds.length = ps.length := by
       have e1 := hk.out.dl
       have e2 := hk.out.tcs.len
       omega
      have OT := aa (show OwnT wr b0 w.heap.size (.slice (some ⟨g, 0, none⟩) ps.length ps.length) ds from ⟨done, by rw [hdl]; exact hown, hk.out.tcs⟩)
      have HDL := aa hdl
      clear hown hdl hq
      go_wp2_with fail
      go_ret2
      rw [HE.out, HQ.out]
      obtain ⟨A', c', e, hc', _, hr⟩ := OT.out.reads
      injection e with e1 e2 e3
      subst e1 e3
      exact ⟨_, _, (by rw [HDL.out]; rfl), hc', hr, hk.out.below, OT.out.fr (ae _)⟩
   ·rw [hz] at CZ
    have HE : Hd (polTimes order ps t = (0, [])) := ⟨by
     unfold polTimes
     rw [hm, hr, if_neg (by simp), if_pos (of_decide_eq_true hz)]⟩
    clear hm hr hz
    go_wp2_with fail
    refine CZ.out.mono ?_
    rintro e w4 ⟨rfl, hb4⟩
    have HB4 := aa (HB3.out.trans (hb4.mono HB3.out.size))
    clear hb4
    go_wp2_with fail
    go_ret2
    rw [HE.out]
    exact ⟨none, 0, rfl, ae _, RPol.nil _ _ _, HB4.out, Fr.none _⟩
theorem poly_Times (b0 : Nat) (order : Int) (A : Option Addr) (c : Nat) (ps : List TermD) (v : Value) (t : TermD) (w : World) (hb0 : b0 ≤ w.heap.size) (h : RPol w b0 A ps) (hc : ps.length ≤ c) (hs : shortP ps) (ht : RTerm w b0 v t) (hts : t.c.short) :
    Calls Tryz.prog 98 #[.int .i64 order, .slice A ps.length c, v] w fun e w' => ∃ A' c', e = .returned (.tuple #[.slice A' (polTimes order ps t).2.length c', .int .i64 (polTimes order ps t).1]) ∧
     (polTimes order ps t).2.length ≤ c' ∧ RPol w' b0 A' (polTimes order ps t).2 ∧ Below w.heap.size w w' :=
 (poly_TimesF b0 order A c ps v t w hb0 h hc hs ht hts).mono fun _ _ ⟨A', c', h1, h2, h3, h4, _⟩ => ⟨A', c', h1, h2, h3, h4⟩
def mulC (o : Int) (p : List TermD) : List TermD → Int × List TermD
 | [] => (0, [])
 | t :: r => if (polTimes o p t).1 ≠ 0 then ((polTimes o p t).1, []) else appD (polTimes o p t).2 (mulC o p r)
def polMul (o : Int) (p q : List TermD) : Int × List TermD :=
 if (polMay o p && polMay o q) = false then (1, []) else if (mulC o p q).1 ≠ 0 then ((mulC o p q).1, []) else polMake o (mulC o p q).2
theorem timesL_facts (t : TermD) : ∀ p, (timesL t p).2.length ≤ p.length ∧ ∀ s ∈ (timesL t p).2, s.c.short
 | [] => ⟨by simp [timesL], fun s h => by simp [timesL] at h⟩
 | s :: r => by
   obtain ⟨h1, h2⟩ := timesL_facts t r
   unfold timesL
   split
   ·exact ⟨by simp, fun s h => by simp at h⟩
   ·split
    ·exact ⟨by simp, fun s h => by simp at h⟩
    ·split
     ·exact ⟨by simp, fun s h => by simp at h⟩
     ·refine ⟨by simpa using h1, fun u hu => ?_⟩
      rcases List.mem_cons.1 hu with rfl | hu
      ·exact mulD_short _ _
      ·exact h2 u hu
theorem polTimes_facts (o : Int) (p : List TermD) (t : TermD) : (polTimes o p t).2.length ≤ p.length ∧ ∀ s ∈ (polTimes o p t).2, s.c.short := by
 unfold polTimes
 split
 ·exact ⟨by simp, fun s h => by simp at h⟩
 ·split
  ·exact ⟨by simp, fun s h => by simp at h⟩
  ·exact timesL_facts t p
def polMonic (o : Int) (p : List TermD) : Int × List TermD :=
 if polMay o p = false then (1, []) else match p with
 | [] => (0, [])
 | t :: _ => if (invD t.c).1 ≠ 0 then ((invD t.c).1, []) else polTimes o p ⟨(invD t.c).2, zeroM⟩
theorem invD_short {r : RatD} (h : r.short) : (invD r).2.short := by
 unfold invD
 split
 ·exact zeroD_short
 ·split
  ·exact zeroD_short
  ·exact ⟨h.2, h.1⟩
theorem poly_MonicF (b0 : Nat) (order : Int) (A : Option Addr) (c : Nat) (ps : List TermD) (w : World) (hb0 : b0 ≤ w.heap.size) (h : RPol w b0 A ps) (hc : ps.length ≤ c) (hs : shortP ps) :
    Calls Tryz.prog 106 #[.int .i64 order, .slice A ps.length c] w fun e w' => ∃ A' c', e = .returned (.tuple #[.slice A' (polMonic order ps).2.length c', .int .i64 (polMonic order ps).1]) ∧
     (polMonic order ps).2.length ≤ c' ∧ RPol w' b0 A' (polMonic order ps).2 ∧ Below w.heap.size w w' ∧ Fr w.heap.size A' := by
 have HP := aa h
 have HS := aa hs
 have HB0 := aa hb0
 have hl := hs.1
 clear h hs hb0
 have CM := aa (poly_May b0 order A c ps w HP.out hc HS.out)
 cases hm : polMay order ps
 ·rw [hm] at CM
  have HE : Hd (polMonic order ps = (1, [])) := ⟨by unfold polMonic; rw [hm]; rfl⟩
  clear hm
  go_enter Tryz.func106, Tryz.ntmps106
  go_wp2_with fail
  refine CM.out.mono ?_
  rintro e w2 ⟨rfl, hb2⟩
  have HB2 := aa hb2
  clear hb2
  go_wp2_with fail
  go_ret2
  rw [HE.out]
  exact ⟨none, 0, rfl, ae _, RPol.nil _ _ _, HB2.out, Fr.none _⟩
 ·rw [hm] at CM
  cases ps with
  | nil =>
    have HE : Hd (polMonic order [] = (0, [])) := ⟨by unfold polMonic; rw [hm]; rfl⟩
    clear hm
    go_enter Tryz.func106, Tryz.ntmps106
    go_wp2_with fail
    refine CM.out.mono ?_
    rintro e w2 ⟨rfl, hb2⟩
    have HB2 := aa hb2
    clear hb2
    go_wp2_with fail
    go_ret2
    rw [HE.out]
    exact ⟨none, 0, rfl, ae _, RPol.nil _ _ _, HB2.out, Fr.none _⟩
  | cons t r =>
    obtain ⟨I, hI⟩ : ∃ I, invD t.c = I := ⟨_, rfl⟩
    have HE : Hd (polMonic order (t :: r) = if I.1 ≠ 0 then (I.1, []) else polTimes order (t :: r) ⟨I.2, zeroM⟩) := ⟨by unfold polMonic; rw [hm]; simp only [hI]; rfl⟩
    have hts := HS.out.2 t (by simp)
    have HI := aa (show I.2.short by rw [← hI]; exact invD_short hts)
    have CI := aa (fun v W hW hv => ratio_Inv b0 v t.c W hW hv hts)
    rw [hI] at CI
    clear hm hI hts
    obtain ⟨N, hN⟩ : ∃ N, N = t :: r := ⟨_, rfl⟩
    have H0 : Hd (N[0]? = some t) := ⟨by rw [hN]; rfl⟩
    have hN0 : 0 < N.length := by rw [hN]; simp
    rw [← hN] at HP HS CM HE hc hl ⊢
    clear hN
    have z1 : ((N.length : Int) == 0) = false := by rw [beq_eq_false_iff_ne]; omega
    have z2 : (0 : Int) < N.length := by omega
    go_enter Tryz.func106, Tryz.ntmps106
    go_wp2_with fail
    refine CM.out.mono ?_
    rintro e w2 ⟨rfl, hb2⟩
    have HB2 := aa hb2
    obtain ⟨ad, B1, c1, B2, c2, t', rfl, hab, hti, hrt, q0, q1, q2, q3, q4, q5, q6⟩ := (HP.out.up hb2).get hN0
    have ht' : t' = t := by have := hti.out; rw [H0.out] at this; injection this with this; exact this.symm
    subst ht'
    have HRR : Hd (RRat w2 b0 (.agg #[.bool t'.c.neg, .slice B1 t'.c.num.length c1, .slice B2 t'.c.den.length c2]) t'.c) := ⟨by
     obtain ⟨x1, x2, x3, x4, e, y1, y2, y3, y4⟩ := hrt.out
     simp only [Value.agg.injEq, Array.mk.injEq, List.cons.injEq, Value.slice.injEq, true_and, and_true] at e
     obtain ⟨⟨rfl, rfl⟩, rfl, rfl⟩ := e
     exact ⟨_, _, _, _, rfl, y1, y2, y3, y4⟩⟩
    have CI2 := aa (CI.out _ w2 (ah HB0.out hb2.size) HRR.out)
    have ea : ad.add (0 * 7) = ad := by unfold Addr.add; simp
    rw [ea] at q0 q1 q2
    clear ea hb2 CM CI hrt HRR H0 hti q3 q4 q5 q6
    go_wp2_with fail
    refine CI2.out.mono ?_
    rintro e w3 ⟨x, rfl, hx, hb3⟩
    have HB3 := aa (HB2.out.trans (hb3.mono HB2.out.size))
    have HX := aa hx
    obtain ⟨xA, xc, xB, xd, rfl, hxc, hxd, _, _⟩ := hx
    clear hb3 CI2 q0 q1 q2 hab
    by_cases h0 : I.1 = 0
    ·have e1 : (I.1 != 0) = false := by rw [bne_eq_false_iff_eq]; exact h0
     have HF : Hd (polMonic order N = polTimes order N ⟨I.2, zeroM⟩) := ⟨by rw [HE.out, if_neg (by rw [h0]; simp)]⟩
     have hal : Below w3.heap.size w3 (w3.alloc (Obj.cells #[.bool I.2.neg, .slice xA I.2.num.length xc, .slice xB I.2.den.length xd] 64)) := (ag _ _).alloc (ae _) _
     have HB4 := aa (HB3.out.trans (hal.mono HB3.out.size))
     have HX4 := aa (HX.out.up hal)
     have CT := aa (poly_TimesF b0 order (some ad) c N (.agg #[.bool I.2.neg, .slice xA I.2.num.length xc, .slice xB I.2.den.length xd, .int .i64 0, .int .i64 0, .int .i64 0, .int .i64 0]) ⟨I.2, zeroM⟩ _ (ah HB0.out HB4.out.size) (HP.out.up HB4.out) hc HS.out (by
      obtain ⟨x1, x2, x3, x4, e, y1, y2, y3, y4⟩ := HX4.out
      simp only [Value.agg.injEq, Array.mk.injEq, List.cons.injEq, Value.slice.injEq, true_and, and_true] at e
      obtain ⟨⟨rfl, rfl⟩, rfl, rfl⟩ := e
      exact ⟨_, _, _, _, rfl, y1, y2, y3, y4⟩) HI.out)
     clear h0 hal
     go_wp2_with fail
     refine CT.out.mono ?_
     rintro e w5 ⟨A', c', rfl, hc', hr', hb5, hfr⟩
     have HFR := aa (hfr.le HB4.out.size)
     have HC' := aa hc'
     have HR' := aa hr'
     have HB5 := aa (HB4.out.trans (hb5.mono HB4.out.size))
     clear hb5 hc' hr' hfr
     go_wp2_with fail
     go_ret2
     rw [HF.out]
     exact ⟨A', c', rfl, HC'.out, HR'.out, HB5.out, HFR.out⟩
    ·have e1 : (I.1 != 0) = true := by rw [bne_iff_ne]; exact h0
     have HF : Hd (polMonic order N = (I.1, [])) := ⟨by rw [HE.out, if_pos h0]⟩
     clear h0
     go_wp2_with fail
     go_ret2
     rw [HF.out]
     exact ⟨none, 0, rfl, ae _, RPol.nil _ _ _, HB3.out.trans (((ag w3.heap.size w3).alloc (ae _) _).mono HB3.out.size), Fr.none _⟩
end Go.Proofs.YtgjkgkgieeoalaaGreat
namespace Go.Proofs.YtgjkgkgieeoalaaGreat
open Go.RowKit Go.PlainAid
theorem gb_trans {w w' w'' : World} {row : Option Nat} (h : w.grownBy w' row) (k : w'.grownBy w'' row) : w.grownBy w'' row :=
 ⟨k.os.trans h.os, k.tape.trans h.tape, k.output.trans h.output, ah h.size k.size, fun b hb hne => (k.block b (Nat.lt_of_lt_of_le hb h.size) hne).trans (h.block b hb hne)⟩
theorem gb_of {w w' : World} {row : Option Nat} (h : Below w.heap.size w w') : w.grownBy w' row := ⟨h.os, h.tape, h.output, h.size, fun b hb _ => h.block b hb⟩
theorem gb_dn {w w' : World} {row : Option Nat} (h : w.grownBy w' row) (n : Nat) : w.grownBy (w'.drewN n) row := ⟨h.os, h.tape, h.output, h.size, h.block⟩
def tx (s : ByteArray) (at_ : Nat) (bad : Bool) : Array Value := #[.string s, .int .i64 at_, .bool bad]
def skipF (s : ByteArray) : Nat → Nat → Nat
 | 0, k => k
 | n + 1, k => if k < s.size ∧ bt s k = 32 then skipF s n (k + 1) else k
def skipD (s : ByteArray) (k : Nat) : Nat := skipF s (s.size - k) k
theorem skipF_ge (s : ByteArray) : ∀ (n k : Nat), k ≤ skipF s n k ∧ skipF s n k ≤ max k s.size
 | 0, k => ⟨ae _, by simp [skipF]; omega⟩
 | n + 1, k => by
   unfold skipF
   split
   ·rename_i h
    have := skipF_ge s n (k + 1)
    omega
   ·omega
theorem skipD_le {s : ByteArray} {k : Nat} (h : k ≤ s.size) : skipD s k ≤ s.size := by have := (skipF_ge s (s.size - k) k).2; unfold skipD; omega
theorem skipD_go {s : ByteArray} {k : Nat} (h : k < s.size) (hb : bt s k = 32) : skipD s k = skipD s (k + 1) := by
 unfold skipD
 rw [show s.size - k = (s.size - (k + 1)) + 1 by omega]
 conv => lhs; unfold skipF
 rw [if_pos ⟨h, hb⟩]
theorem skipD_end {s : ByteArray} {k : Nat} (h : ¬ (k < s.size ∧ bt s k = 32)) : skipD s k = k := by
 unfold skipD
 cases s.size - k with
 | zero => rfl
 | succ n => exact if_neg h
theorem text_skip (s : ByteArray) (k g : Nat) (bad : Bool) (w : World) (hk : Bk w g 244 (tx s k bad)) (hs : s.size ≤ maxLen) (hks : k ≤ s.size) :
    Calls Tryz.prog 297 #[.pointer (some ⟨g, 0, none⟩)] w fun e w' => e = .returned (.tuple #[]) ∧ Bk w' g 244 (tx s (skipD s k) bad) ∧ w.grownBy w' (some g) := by
 unfold maxLen at hs
 have HK := aa hk
 clear hk
 go_enter Tryz.func297, Tryz.ntmps297
 go_wp2_with fail
 go_loopg [5] (s.size - k) (fun n _ wr => ∃ i : Nat, n = s.size - i ∧ i ≤ s.size ∧ Hd (Bk wr g 244 (tx s i bad)) ∧ Hd (w.grownBy wr (some g)) ∧ Hd (skipD s k = skipD s i))
 case atStart => exact ⟨k, rfl, hks, HK, ⟨gb_of (ag _ _)⟩, ⟨rfl⟩⟩
 case round =>
  obtain ⟨i, hn, hi, HB, HG, HE⟩ := hrel
  obtain ⟨q0, q1, q2⟩ := HB.out.three
  have fz := fun i => HB.out.froz i
  by_cases hlt : i < s.size
  ·have i1 : (i : Int) < s.size := by omega
   have i0 : (0 : Int) ≤ i := by omega
   have hb := get_bt s i hlt
   by_cases h32 : bt s i = 32
   ·have e1 : (bt s i == 32) = true := by rw [h32]; rfl
    have HN := aa (HE.out.trans (skipD_go hlt h32))
    clear h32
    go_wp2_with fail
    go_quiet (fail)
    go_wp2_with fail
    go_roundg (s.size - (i + 1))
    case measure => omega
    case rel => exact ⟨i + 1, rfl, by omega, ⟨(HB.out.dn nq).set_ 1 _⟩, ⟨(gb_dn HG.out nq).set 1 _⟩, HN⟩
   ·have e1 : (bt s i == 32) = false := by rw [beq_eq_false_iff_ne]; exact h32
    have HN := aa (HE.out.trans (skipD_end (fun h => h32 h.2)))
    clear h32
    go_wp2_with fail
    go_quiet (fail)
    go_wp2_with fail
    go_end0
    rw [HN.out]
    exact ⟨rfl, HB.out.dn nq, gb_dn HG.out nq⟩
  ·have i1 : ¬ (i : Int) < s.size := by omega
   have HN := aa (HE.out.trans (skipD_end (fun h => hlt h.1)))
   go_wp2_with fail
   go_quiet (fail)
   go_wp2_with fail
   go_end0
   rw [HN.out]
   exact ⟨rfl, HB.out.dn nq, gb_dn HG.out nq⟩
theorem text_next (s : ByteArray) (k g : Nat) (bad : Bool) (w : World) (hk : Bk w g 244 (tx s k bad)) (hs : s.size ≤ maxLen) (hks : k ≤ s.size) :
    Calls Tryz.prog 267 #[.pointer (some ⟨g, 0, none⟩)] w fun e w' => e = .returned (.int .u8 (bt s (skipD s k))) ∧ Bk w' g 244 (tx s (skipD s k) bad) ∧ w.grownBy w' (some g) := by
 have CS := aa (text_skip s k g bad w hk hs hks)
 unfold maxLen at hs
 have hle := skipD_le hks
 obtain ⟨i, hi⟩ : ∃ i, skipD s k = i := ⟨_, rfl⟩
 rw [hi] at CS hle ⊢
 clear hk hi hks
 go_enter Tryz.func267, Tryz.ntmps267
 go_wp2_with fail
 refine CS.out.mono ?_
 rintro e w2 ⟨rfl, hB, hG⟩
 have HB := aa hB
 have HG := aa hG
 obtain ⟨q0, q1, q2⟩ := hB.three
 clear CS hB hG
 by_cases hlt : i < s.size
 ·have i1 : (i : Int) < s.size := by omega
  have i0 : (0 : Int) ≤ i := by omega
  have hb := get_bt s i hlt
  go_wp2_with fail
  go_quiet (fail)
  go_wp2_with fail
  go_quiet (fail)
  go_wp2_with fail
  go_ret
  exact ⟨rfl, (HB.out.dn _).dn _, gb_dn (gb_dn HG.out _) _⟩
 ·have i1 : ¬ (i : Int) < s.size := by omega
  have hb := bt_end s (Nat.le_of_not_lt hlt)
  go_wp2_with fail
  go_quiet (fail)
  go_wp2_with fail
  go_ret
  rw [hb]
  exact ⟨rfl, HB.out.dn _, gb_dn HG.out _⟩
def eatB (s : ByteArray) (k : Nat) (c : Int) : Bool := bt s (skipD s k) == c && decide (skipD s k < s.size)
def eatK (s : ByteArray) (k : Nat) (c : Int) : Nat := if eatB s k c = true then skipD s k + 1 else skipD s k
theorem eatK_le {s : ByteArray} {k : Nat} {c : Int} (h : k ≤ s.size) : eatK s k c ≤ s.size := by
 have := skipD_le h
 unfold eatK
 split
 ·rename_i h2
  unfold eatB at h2
  simp only [Bool.and_eq_true, decide_eq_true_eq] at h2
  omega
 ·exact this
theorem text_eat (s : ByteArray) (k g : Nat) (bad : Bool) (c : Int) (w : World) (hk : Bk w g 244 (tx s k bad)) (hs : s.size ≤ maxLen) (hks : k ≤ s.size) :
    Calls Tryz.prog 266 #[.pointer (some ⟨g, 0, none⟩), .int .u8 c] w fun e w' => e = .returned (.bool (eatB s k c)) ∧ Bk w' g 244 (tx s (eatK s k c) bad) ∧ w.grownBy w' (some g) := by
 have CS := aa (fun W (hW : Bk W g 244 (tx s k bad)) => text_next s k g bad W hW hs hks)
 have HK := aa hk
 unfold maxLen at hs
 have hle := skipD_le hks
 obtain ⟨B, hB⟩ : ∃ B, eatB s k c = B := ⟨_, rfl⟩
 obtain ⟨KK, hK⟩ : ∃ KK, eatK s k c = KK := ⟨_, rfl⟩
 have HB := aa hB
 have HKK := aa hK
 rw [hB, hK]
 unfold eatK at HKK
 rw [hB] at HKK
 unfold eatB at HB
 obtain ⟨i, hi⟩ : ∃ i, skipD s k = i := ⟨_, rfl⟩
 rw [hi] at CS hle HB HKK
 clear hk hi hks hB hK
 by_cases hc : bt s i = c
 ·by_cases hlt : i < s.size
  ·have i1 : ¬ (s.size : Int) ≤ i := by omega
   have e1 : (bt s i != c) = false := by rw [bne_eq_false_iff_eq]; exact hc
   have hBt : Hd (B = true) := ⟨by rw [← HB.out, hc, decide_eq_true hlt]; simp⟩
   have hKt : Hd (KK = i + 1) := ⟨by rw [← HKK.out, hBt.out]; exact if_pos rfl⟩
   clear hc HB HKK
   go_enter Tryz.func266, Tryz.ntmps266
   go_wp2_with fail
   refine wp_region_mid (by kernel_rfl) (by kernel_rfl) (fun c a d v w h => by cases d <;> exact h) (.pointer (some ⟨g, 0, none⟩)) (.int .u8 c) rfl (Or.inl ⟨by rfl, fun W _ => by go_simp; try with_reducible rfl⟩) (Or.inl ⟨by rfl, fun W _ => by go_simp; try with_reducible rfl⟩) ?_
   intro K hK
   simp only [Act.put, List.setIfInBounds_toArray, List.set_cons_zero, List.set_cons_succ]
   go_simp
   refine (CS.out _ HK.out.d1).mono ?_
   rintro e w2 ⟨rfl, hb2, hG⟩
   have HB2 := aa hb2
   have HG := aa hG
   obtain ⟨q0, q1, q2⟩ := hb2.three
   refine hK _ _ ⟨fun W => ∃ n, W = w2.drewN n, ⟨0, rfl⟩, ?_⟩
   clear hK K hb2 hG CS
   repeat (go_big_quiet_step (fail))
   refine wpQuiet_nil fun W hW => ?_
   obtain ⟨nq, rfl⟩ := hW
   have fz := fun i => HB2.out.froz i
   go_wp2_with fail
   go_ret
   rw [hBt.out, hKt.out]
   exact ⟨rfl, (HB2.out.dn nq).set_ 1 _, gb_trans (gb_dn (gb_of (ag _ _)) 1) ((gb_dn HG.out nq).set 1 _)⟩
  ·have i1 : (s.size : Int) ≤ i := by omega
   have e1 : (bt s i != c) = false := by rw [bne_eq_false_iff_eq]; exact hc
   have hBt : Hd (B = false) := ⟨by rw [← HB.out, decide_eq_false hlt, Bool.and_false]⟩
   have hKt : Hd (KK = i) := ⟨by rw [← HKK.out, hBt.out]; exact if_neg (by simp)⟩
   clear hc HB HKK
   go_enter Tryz.func266, Tryz.ntmps266
   go_wp2_with fail
   refine wp_region_mid (by kernel_rfl) (by kernel_rfl) (fun c a d v w h => by cases d <;> exact h) (.pointer (some ⟨g, 0, none⟩)) (.int .u8 c) rfl (Or.inl ⟨by rfl, fun W _ => by go_simp; try with_reducible rfl⟩) (Or.inl ⟨by rfl, fun W _ => by go_simp; try with_reducible rfl⟩) ?_
   intro K hK
   simp only [Act.put, List.setIfInBounds_toArray, List.set_cons_zero, List.set_cons_succ]
   go_simp
   refine (CS.out _ HK.out.d1).mono ?_
   rintro e w2 ⟨rfl, hb2, hG⟩
   have HB2 := aa hb2
   have HG := aa hG
   obtain ⟨q0, q1, q2⟩ := hb2.three
   refine hK _ _ ⟨fun W => ∃ n, W = w2.drewN n, ⟨0, rfl⟩, ?_⟩
   clear hK K hb2 hG CS
   repeat (go_big_quiet_step (fail))
   refine wpQuiet_nil fun W hW => ?_
   obtain ⟨nq, rfl⟩ := hW
   go_wp2_with fail
   go_ret
   rw [hBt.out, hKt.out]
   exact ⟨rfl, HB2.out.dn nq, gb_trans (gb_dn (gb_of (ag _ _)) 1) (gb_dn HG.out nq)⟩
 ·have e1 : (bt s i != c) = true := by rw [bne_iff_ne]; exact hc
  have hBt : Hd (B = false) := ⟨by rw [← HB.out, beq_eq_false_iff_ne.2 hc, Bool.false_and]⟩
  have hKt : Hd (KK = i) := ⟨by rw [← HKK.out, hBt.out]; exact if_neg (by simp)⟩
  clear hc HB HKK
  go_enter Tryz.func266, Tryz.ntmps266
  go_wp2_with fail
  refine wp_region_mid (by kernel_rfl) (by kernel_rfl) (fun c a d v w h => by cases d <;> exact h) (.pointer (some ⟨g, 0, none⟩)) (.int .u8 c) rfl (Or.inl ⟨by rfl, fun W _ => by go_simp; try with_reducible rfl⟩) (Or.inl ⟨by rfl, fun W _ => by go_simp; try with_reducible rfl⟩) ?_
  intro K hK
  simp only [Act.put, List.setIfInBounds_toArray, List.set_cons_zero, List.set_cons_succ]
  go_simp
  refine (CS.out _ HK.out.d1).mono ?_
  rintro e w2 ⟨rfl, hb2, hG⟩
  have HB2 := aa hb2
  have HG := aa hG
  obtain ⟨q0, q1, q2⟩ := hb2.three
  refine hK _ _ ⟨fun W => ∃ n, W = w2.drewN n, ⟨0, rfl⟩, ?_⟩
  clear hK K hb2 hG CS
  repeat (go_big_quiet_step (fail))
  refine wpQuiet_nil fun W hW => ?_
  obtain ⟨nq, rfl⟩ := hW
  go_wp2_with fail
  go_ret
  rw [hBt.out, hKt.out]
  exact ⟨rfl, HB2.out.dn nq, gb_trans (gb_dn (gb_of (ag _ _)) 1) (gb_dn HG.out nq)⟩
theorem ref_digit (c : Int) (w : World) :
    Calls Tryz.prog 322 #[.int .u8 c] w fun e w' => e = .returned (.bool (decide (48 ≤ c) && decide (c ≤ 57))) ∧ w = w' := by
 by_cases h1 : (48 : Int) ≤ c
 ·by_cases h2 : c ≤ 57
  ·have e : (decide (48 ≤ c) && decide (c ≤ 57)) = true := by rw [decide_eq_true h1, decide_eq_true h2]; rfl
   rw [e]
   clear e
   go_enter Tryz.func322, Tryz.ntmps322
   go_wp2_with fail
   go_ret
   exact ⟨rfl, rfl⟩
  ·have e : (decide (48 ≤ c) && decide (c ≤ 57)) = false := by rw [decide_eq_false h2, Bool.and_false]
   rw [e]
   clear e
   go_enter Tryz.func322, Tryz.ntmps322
   go_wp2_with fail
   go_ret
   exact ⟨rfl, rfl⟩
 ·have e : (decide (48 ≤ c) && decide (c ≤ 57)) = false := by rw [decide_eq_false h1, Bool.false_and]
  rw [e]
  clear e
  go_enter Tryz.func322, Tryz.ntmps322
  go_wp2_with fail
  go_ret
  exact ⟨rfl, rfl⟩
def varD (c : Int) : Int := if c = 120 then 0 else if c = 121 then 1 else if c = 122 then 2 else if c = 119 then 3 else -1
theorem ref_variable (c : Int) (w : World) :
    Calls Tryz.prog 314 #[.int .u8 c] w fun e w' => e = .returned (.int .i64 (varD c)) ∧ w = w' := by
 have n0 : (((⟨#[120, 121, 122, 119]⟩ : ByteArray)[0]'(by decide)).toNat : Int) = 120 := rfl
 have n1 : (((⟨#[120, 121, 122, 119]⟩ : ByteArray)[1]'(by decide)).toNat : Int) = 121 := rfl
 have n2 : (((⟨#[120, 121, 122, 119]⟩ : ByteArray)[2]'(by decide)).toNat : Int) = 122 := rfl
 have n3 : (((⟨#[120, 121, 122, 119]⟩ : ByteArray)[3]'(by decide)).toNat : Int) = 119 := rfl
 obtain ⟨V, hV⟩ : ∃ V, varD c = V := ⟨_, rfl⟩
 rw [hV]
 have HV := aa hV
 unfold varD at HV
 clear hV
 go_enter Tryz.func314, Tryz.ntmps314
 go_wp2_with fail
 go_loop [3] (fun v => ∃ i : Nat, v = .int .i64 i ∧ i ≤ 4 ∧ Hd (0 < i → c ≠ 120) ∧ Hd (1 < i → c ≠ 121) ∧ Hd (2 < i → c ≠ 122) ∧ Hd (3 < i → c ≠ 119)) (fun v => 4 - (intOf v).toNat)
 case atStart => exact ⟨0, rfl, by omega, ⟨fun h => by omega⟩, ⟨fun h => by omega⟩, ⟨fun h => by omega⟩, ⟨fun h => by omega⟩⟩
 case round =>
  obtain ⟨i, rfl, hi, h0, h1, h2, h3⟩ := hrel
  rcases (show i = 0 ∨ i = 1 ∨ i = 2 ∨ i = 3 ∨ i = 4 by omega) with rfl | rfl | rfl | rfl | rfl
  ·by_cases hc : c = 120
   ·have e : ((120 : Int) == c) = true := by rw [hc]; rfl
    have HT : Hd (V = 0) := ⟨by rw [← HV.out, if_pos hc]⟩
    clear hc
    go_wp2_with fail
    go_ret
    rw [HT.out]
    exact ⟨rfl, rfl⟩
   ·have e : ((120 : Int) == c) = false := by rw [beq_eq_false_iff_ne]; exact fun h => hc h.symm
    have HC := aa hc
    clear hc
    go_wp2_with fail
    go_round
    case measure => first | (simp [intOf]; done) | (simp [intOf]; omega)
    case rel => exact ⟨1, rfl, by omega, ⟨fun _ => HC.out⟩, ⟨fun h => by omega⟩, ⟨fun h => by omega⟩, ⟨fun h => by omega⟩⟩
  ·by_cases hc : c = 121
   ·have e : ((121 : Int) == c) = true := by rw [hc]; rfl
    have HT : Hd (V = 1) := ⟨by rw [← HV.out, if_neg (h0.out (by omega)), if_pos hc]⟩
    clear hc
    go_wp2_with fail
    go_ret
    rw [HT.out]
    exact ⟨rfl, rfl⟩
   ·have e : ((121 : Int) == c) = false := by rw [beq_eq_false_iff_ne]; exact fun h => hc h.symm
    have HC := aa hc
    clear hc
    go_wp2_with fail
    go_round
    case measure => first | (simp [intOf]; done) | (simp [intOf]; omega)
    case rel => exact ⟨2, rfl, by omega, ⟨fun _ => h0.out (by omega)⟩, ⟨fun _ => HC.out⟩, ⟨fun h => by omega⟩, ⟨fun h => by omega⟩⟩
  ·by_cases hc : c = 122
   ·have e : ((122 : Int) == c) = true := by rw [hc]; rfl
    have HT : Hd (V = 2) := ⟨by rw [← HV.out, if_neg (h0.out (by omega)), if_neg (h1.out (by omega)), if_pos hc]⟩
    clear hc
    go_wp2_with fail
    go_ret
    rw [HT.out]
    exact ⟨rfl, rfl⟩
   ·have e : ((122 : Int) == c) = false := by rw [beq_eq_false_iff_ne]; exact fun h => hc h.symm
    have HC := aa hc
    clear hc
    go_wp2_with fail
    go_round
    case measure => first | (simp [intOf]; done) | (simp [intOf]; omega)
    case rel => exact ⟨3, rfl, by omega, ⟨fun _ => h0.out (by omega)⟩, ⟨fun _ => h1.out (by omega)⟩, ⟨fun _ => HC.out⟩, ⟨fun h => by omega⟩⟩
  ·by_cases hc : c = 119
   ·have e : ((119 : Int) == c) = true := by rw [hc]; rfl
    have HT : Hd (V = 3) := ⟨by rw [← HV.out, if_neg (h0.out (by omega)), if_neg (h1.out (by omega)), if_neg (h2.out (by omega)), if_pos hc]⟩
    clear hc
    go_wp2_with fail
    go_ret
    rw [HT.out]
    exact ⟨rfl, rfl⟩
   ·have e : ((119 : Int) == c) = false := by rw [beq_eq_false_iff_ne]; exact fun h => hc h.symm
    have HC := aa hc
    clear hc
    go_wp2_with fail
    go_round
    case measure => first | (simp [intOf]; done) | (simp [intOf]; omega)
    case rel => exact ⟨4, rfl, by omega, ⟨fun _ => h0.out (by omega)⟩, ⟨fun _ => h1.out (by omega)⟩, ⟨fun _ => h2.out (by omega)⟩, ⟨fun _ => HC.out⟩⟩
  ·have HT : Hd (V = -1) := ⟨by rw [← HV.out, if_neg (h0.out (by omega)), if_neg (h1.out (by omega)), if_neg (h2.out (by omega)), if_neg (h3.out (by omega))]⟩
   go_wp2_with fail
   go_ret
   rw [HT.out]
   exact ⟨rfl, rfl⟩
end Go.Proofs.YtgjkgkgieeoalaaGreat
