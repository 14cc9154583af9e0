/- Parts of the proof, joined: each theorem says what it shows. -/
import Derived.Test.YtgjkgkgieeoalaaGreatF01
import Derived.Test.YtgjkgkgieeoalaaGreatF25
import Derived.Test.YtgjkgkgieeoalaaGreatF23
import Derived.Test.YtgjkgkgieeoalaaGreatF18
import Derived.Test.YtgjkgkgieeoalaaGreatF24
import Derived.Test.YtgjkgkgieeoalaaGreatF20
import Derived.Test.YtgjkgkgieeoalaaGreatF06
import Derived.Test.YtgjkgkgieeoalaaGreatF22
set_option linter.unusedVariables false
set_option linter.unusedSimpArgs false
set_option maxHeartbeats 24000000
set_option maxRecDepth 100000
namespace Go.Proofs.YtgjkgkgieeoalaaGreat
open Go.RowKit
structure Bo1 (S g : Nat) (w0 w : World) (ty : TypeId) (cs : Array Value) : Prop where
 below : Below S w0 w
 s1 : S ≤ g
 k1 : Bk w g ty cs
section
variable {S g : Nat} {w0 w w' : World} {ty : TypeId} {cs : Array Value}
theorem Bo1.up (h : Bo1 S g w0 w ty cs) (hb : Below w.heap.size w w') : Bo1 S g w0 w' ty cs :=
 ⟨h.below.trans (hb.mono (ah h.s1 (Nat.le_of_lt h.k1.lt))), h.s1, h.k1.up hb⟩
theorem Bo1.mk1 (w : World) (ty : TypeId) (cs : Array Value) : Bo1 w.heap.size w.heap.size w (w.alloc (Obj.cells cs ty)) ty cs := ⟨(ag _ _).alloc (ae _) _, ae _, Bk.new_ _ _ _⟩
end
theorem shortP_nil : shortP [] := ⟨by simp, fun s hs => by cases hs⟩
theorem polAdd_short {o : Int} {ps : List (List TermD)} (h : ∀ p ∈ ps, shortP p) : shortP (polAdd o ps).2 := by
 unfold polAdd
 split
 ·exact shortP_nil
 ·exact (polMake_short fun s hs => by
    obtain ⟨p, hp, hs⟩ := List.mem_flatten.1 hs
    exact (h p hp).2 s hs).1
theorem polTimes_short {o : Int} {p : List TermD} (t : TermD) (h : shortP p) : shortP (polTimes o p t).2 :=
 ⟨ah (polTimes_facts o p t).1 h.1, (polTimes_facts o p t).2⟩
def AllP (b0 : Nat) (w : World) (l : List (Option Addr × List TermD)) : Prop := ∀ (j : Nat) (p : Option Addr × List TermD), l[j]? = some p → RPol w b0 p.1 p.2
section
variable {b0 : Nat} {w w' : World} {l : List (Option Addr × List TermD)}
theorem AllP.cons {A : Option Addr} {ts : List TermD} (h : AllP b0 w l) (hr : RPol w b0 A ts) : AllP b0 w ((A, ts) :: l) := fun j p hp => by
 match j, hp with
 | 0, hp => injection hp with hp; subst hp; exact hr
 | j + 1, hp => exact h j p hp
theorem AllP.nil : AllP b0 w [] := fun j p hp => by simp at hp
end
theorem Mat.far {w w' : World} {b0 base g : Nat} {t : TypeId} {cs : Array Value} {V R : Value} {vs : List Value} {r : List TermD} {qs : List (List TermD)} (h : Mat w b0 base V vs R r qs) (hg : w.grownBy w' (some g)) (hk : Bk w g t cs) (hb : b0 ≤ g) (h1 : t ≠ 25) (h2 : t ≠ 68) (h3 : t ≠ 112) : Mat w' b0 base V vs R r qs := by
 refine ⟨World.ownsRow.kept h.out hg ?_, h.len, h.fam.far hg (fun g' e => by injection e with e; subst e; exact ⟨hb, t, cs, hk, h3⟩) fun i p hi => ?_⟩
 ·cases e : V.ownBlock with
  | none => exact .inl rfl
  | some G =>
    refine .inr fun e2 => ?_
    injection e2 with e2
    subst e2
    obtain ⟨⟨ds, hk2⟩, _⟩ := own_bk h.out e
    exact Bk.ne_ hk hk2 h1 rfl
 ·cases e : p.1.ownBlock with
  | none => exact .inl rfl
  | some G =>
    refine .inr fun e2 => ?_
    injection e2 with e2
    subst e2
    obtain ⟨_, _, ds, hk2⟩ := (h.fam.own i p hi).lt e
    exact Bk.ne_ hk hk2 h2 rfl
theorem RPol.at0 {w : World} {b0 : Nat} {A : Option Addr} {ts : List TermD} (h : RPol w b0 A ts) (hn : ts ≠ []) : ∀ ad, A = some ad → ad.block < w.heap.size := fun ad e => by
 have hl : 0 < ts.length := List.length_pos_iff.2 hn
 obtain ⟨ad', _, _, _, _, _, e', hb, _⟩ := h.get hl
 rw [e] at e'
 injection e' with e'
 subst e'
 exact hb
theorem set3_grown (w : World) (g : Nat) (x y z : Value) : w.grownBy (((w.setCell ⟨g, 0, none⟩ x).setCell ⟨g, 1, none⟩ y).setCell ⟨g, 2, none⟩ z) (some g) := ((set_grown w ⟨g, 0, none⟩ x).set 1 y).set 2 z
theorem Mat.cellV {w : World} {b0 base G n c : Nat} {R : Value} {vs : List Value} {r : List TermD} {qs : List (List TermD)} (h : Mat w b0 base (.slice (some ⟨G, 0, none⟩) n c) vs R r qs) {j : Nat} {v : Value} (hj : vs[j]? = some v) : w.cell? ⟨G, j, none⟩ = some v := by
 have h2 := h.out
 have hn : n = vs.length := by
  rcases h2.2 with ⟨e, _⟩ | ⟨g, cap, cur, e, _⟩
  ·cases e
  ·injection e
 have := h2.cells (g := G) rfl j v hj
 rwa [add_win, Nat.zero_add] at this
theorem moveD_eq {o : Int} {p p' b b' q : List TermD} {t u : TermD} {k : Nat} {m : MonD} {I : RatD} {M : Int × RatD} (hp : p = t :: p') (hb : b = u :: b') (hI : (invD u.c).2 = I) (hM : mulD t.c I = M) (hk : ¬ 400 ≤ k) :
    moveD o p b q k m = if M.1 ≠ 0 then (M.1, [], []) else if 60 ≤ q.length then (90, [], []) else if (polTimes o b ⟨negD M.2, m⟩).1 ≠ 0 then ((polTimes o b ⟨negD M.2, m⟩).1, [], []) else
     if (polAdd o [p, (polTimes o b ⟨negD M.2, m⟩).2]).1 ≠ 0 then ((polAdd o [p, (polTimes o b ⟨negD M.2, m⟩).2]).1, [], []) else (0, (polAdd o [p, (polTimes o b ⟨negD M.2, m⟩).2]).2, q ++ [⟨M.2, m⟩]) := by
 subst hp hb hI hM
 exact if_neg hk
theorem cell_grown {w w' : World} {row : Option Nat} {a : Addr} {v : Value} (h : w.cell? a = some v) (hg : w.grownBy w' row) (hne : some a.block ≠ row) : w'.cell? a = some v :=
 (World.cell?_of_block (hg.block _ (World.block_lt_of_cell? w a h) hne)).trans h
theorem OwnT.ne {w : World} {b0 base g : Nat} {u : Value} {q : List TermD} {t : TypeId} {cs : Array Value} (h : OwnT w b0 base u q) (hk : Bk w g t cs) (ht : t ≠ 68) : some g ≠ u.ownBlock := fun e => by
 obtain ⟨_, _, ds, hk2⟩ := h.lt e.symm
 exact Bk.ne_ hk hk2 ht rfl
theorem add_new {b0 : Nat} {o : Int} {p x : List TermD} {Y : Int × List TermD} (hs : shortPs [p, x]) (he : polAdd o [p, x] = Y) {W : World} {A B : Option Addr} {c d : Nat} (hb : b0 ≤ W.heap.size) (hp : RPol W b0 A p) (hx : RPol W b0 B x) (hc : p.length ≤ c) (hd : x.length ≤ d) :
    Calls Tryz.prog 99 #[.int .i64 o, .slice (some ⟨W.heap.size, 0, none⟩) 2 2] (W.alloc (.cells #[.slice A p.length c, .slice B x.length d] 25)).drew fun e w' => ∃ A' c', e = .returned (.tuple #[.slice A' Y.2.length c', .int .i64 Y.1]) ∧ Y.2.length ≤ c' ∧ RPol w' b0 A' Y.2 ∧ Below W.heap.size W w' ∧ Fr W.heap.size A' := by
 subst he
 refine (poly_AddF b0 o (some ⟨W.heap.size, 0, none⟩) 2 [p, x] _ (ah hb (below1 _ _).drew.size) ((rpols_bk2 (p := p) (q := x) (Bk.new_ _ _ _) (hp.up (below1 _ _)) (hx.up (below1 _ _)) hc hd).up (ag _ _).drew) (ae _) hs).mono ?_
 rintro e w' ⟨A', c', h1, h2, h3, h4, h5⟩
 exact ⟨A', c', h1, h2, h3, goes (below1 _ _).drew h4, h5.le (below1 _ _).drew.size⟩
structure Dv (b0 gd : Nat) (o : Int) (L : Option Addr) (cl : Nat) (l : List (List TermD)) (w0 w : World) (A : Option Addr) (c : Nat) (p : List TermD) (V R : Value) (vs : List Value) (r : List TermD) (qs : List (List TermD)) (k : Nat) : Prop where
 below : Below w0.heap.size w0 w
 bb : b0 ≤ w0.heap.size
 bg : w0.heap.size ≤ gd
 kd : Bk w gd 267 #[.int .i64 o, .slice A p.length c, .slice L l.length cl, V, R, .int .i64 k]
 rl : RPols w0 b0 L l
 hcl : l.length ≤ cl
 rp : RPol w b0 A p
 hc : p.length ≤ c
 mat : Mat w b0 w0.heap.size V vs R r qs
 len : qs.length = l.length
 off : p ≠ [] → Off ((R, r) :: vs.zip qs) A ∧ ∀ ad, A = some ad → ad.block ≠ gd ∧ V.ownBlock ≠ some ad.block
section
variable {b0 gd : Nat} {o : Int} {L : Option Addr} {cl : Nat} {l : List (List TermD)} {w0 w w' : World} {A : Option Addr} {c : Nat} {p : List TermD} {V R : Value} {vs : List Value} {r : List TermD} {qs : List (List TermD)} {k : Nat}
theorem Dv.up (h : Dv b0 gd o L cl l w0 w A c p V R vs r qs k) (hb : Below w.heap.size w w') : Dv b0 gd o L cl l w0 w' A c p V R vs r qs k :=
 ⟨goes h.below hb, h.bb, h.bg, h.kd.up hb, h.rl, h.hcl, h.rp.up hb, h.hc, h.mat.up hb, h.len, h.off⟩
theorem Dv.hb0 (h : Dv b0 gd o L cl l w0 w A c p V R vs r qs k) : b0 ≤ w.heap.size := ah h.bb h.below.size
theorem Dv.rok (h : Dv b0 gd o L cl l w0 w A c p V R vs r qs k) : Rok w b0 (some gd) := fun g e => by injection e with e; subst e; exact ⟨ah h.bb h.bg, _, _, h.kd, by decide⟩
theorem Dv.offd (h : Dv b0 gd o L cl l w0 w A c p V R vs r qs k) : p ≠ [] → ∀ ad, A = some ad → (some gd : Option Nat) ≠ some ad.block := fun hn ad e e2 => by
 injection e2 with e2; exact ((h.off hn).2 ad e).1 e2.symm
theorem Dv.matd (h : Dv b0 gd o L cl l w0 w A c p V R vs r qs k) (i : Nat) (v : Value) : Mat (w.setCell ⟨gd, i, none⟩ v) b0 w0.heap.size V vs R r qs :=
 h.mat.far (set_grown w ⟨gd, i, none⟩ v) h.kd (ah h.bb h.bg) (by decide) (by decide) (by decide)
theorem Dv.setk (h : Dv b0 gd o L cl l w0 w A c p V R vs r qs k) (k' : Nat) : Dv b0 gd o L cl l w0 (w.setCell ⟨gd, 5, none⟩ (.int .i64 k')) A c p V R vs r qs k' :=
 ⟨h.below.setCell h.bg _, h.bb, h.bg, h.kd.set_ 5 _, h.rl, h.hcl, h.rp.grown (set_grown w ⟨gd, 5, none⟩ _) h.offd h.rok, h.hc, h.matd _ _, h.len, h.off⟩
theorem Dv.far {g : Nat} {t : TypeId} {cs : Array Value} (h : Dv b0 gd o L cl l w0 w A c p V R vs r qs k) (hg : w.grownBy w' (some g)) (hk : Bk w g t cs) (hb : w0.heap.size ≤ g) (h1 : t ≠ 25) (h2 : t ≠ 68) (h3 : t ≠ 112) (h4 : 267 ≠ t) (hpa : p ≠ [] → ∀ ad, A = some ad → ad.block ≠ g) : Dv b0 gd o L cl l w0 w' A c p V R vs r qs k :=
 ⟨h.below.grown hg h.below.size (fun g' e => by injection e with e; subst e; exact hb), h.bb, h.bg, h.kd.grown hg (fun e => by injection e with e; exact Bk.ne_ h.kd hk h4 e), h.rl, h.hcl, h.rp.grown hg (fun hn ad e e2 => by injection e2 with e2; exact hpa hn ad e e2.symm) (fun g' e => by injection e with e; subst e; exact ⟨ah h.bb hb, t, cs, hk, h3⟩), h.hc, h.mat.far hg hk (ah h.bb hb) h1 h2 h3, h.len, h.off⟩
theorem Dv.setp (h : Dv b0 gd o L cl l w0 w A c p V R vs r qs k) {A' : Option Addr} {c' : Nat} {p' : List TermD} (hr : RPol w b0 A' p') (hc' : p'.length ≤ c') (hf : p' ≠ [] → Off ((R, r) :: vs.zip qs) A' ∧ ∀ ad, A' = some ad → ad.block ≠ gd ∧ V.ownBlock ≠ some ad.block) :
    Dv b0 gd o L cl l w0 (w.setCell ⟨gd, 1, none⟩ (.slice A' p'.length c')) A' c' p' V R vs r qs k :=
 ⟨h.below.setCell h.bg _, h.bb, h.bg, h.kd.set_ 1 _, h.rl, h.hcl, hr.grown (set_grown w ⟨gd, 1, none⟩ _) (fun hn ad e e2 => by injection e2 with e2; exact ((hf hn).2 ad e).1 e2.symm) h.rok, hc', h.matd _ _, h.len, hf⟩
theorem Dv.fresh (h : Dv b0 gd o L cl l w0 w A c p V R vs r qs k) {A' : Option Addr} (hf : Fr w.heap.size A') : Off ((R, r) :: vs.zip qs) A' ∧ ∀ ad, A' = some ad → ad.block ≠ gd ∧ V.ownBlock ≠ some ad.block :=
 ⟨Off.fresh h.mat.fam hf, fun ad e => by
  have h1 := hf ad e
  have h2 := h.kd.lt
  refine ⟨by omega, fun e2 => ?_⟩
  obtain ⟨⟨cs, hk⟩, _⟩ := own_bk h.mat.out e2
  have := hk.lt
  omega⟩
theorem Dv.quot (h : Dv b0 gd o L cl l w0 w A c p V R vs r qs k) {i G n cV : Nat} {v v' : Value} {q us : List TermD} (hV : V = .slice (some ⟨G, 0, none⟩) n cV) (hv : vs[i]? = some v) (hq : qs[i]? = some q) (AP : Apg b0 w0.heap.size w w' v v' q us) :
    Dv b0 gd o L cl l w0 (w'.setCell ⟨G, i, none⟩ v') A c p V R (vs.set i v') r (qs.set i (q ++ us)) k := by
 subst hV
 have ho := h.mat.fam.own (i + 1) (v, q) (h.mat.zip_at hv hq)
 have hrok : Rok w b0 v.ownBlock := ho.rok h.bb
 obtain ⟨m1, m2⟩ := h.mat.inner h.bb hv hq AP.grow AP.own AP.at_
 have hn : n = vs.length := by
  rcases h.mat.out.2 with ⟨e, _⟩ | ⟨g, cap, cur, e, _⟩
  ·cases e
  ·injection e
 have hG := own_bk h.mat.out (gp := G) rfl
 obtain ⟨⟨cs, hkG⟩, hbG⟩ := hG
 obtain ⟨⟨cs', hkG'⟩, _⟩ := own_bk m1 (gp := G) rfl
 have hgd : some gd ≠ v.ownBlock := fun e => by
  obtain ⟨_, _, ds, hk2⟩ := ho.lt e.symm
  exact Bk.ne_ h.kd hk2 (by decide) rfl
 have hkd : Bk w' gd _ _ := h.kd.grown AP.grow hgd
 have hbl : Below w0.heap.size w0 w' := h.below.grown AP.grow h.below.size fun g e => (ho.lt e).2.1
 have hrp : RPol w' b0 A p := h.rp.grown AP.grow (fun hn ad e e2 => (h.off hn).1 (i + 1) (v, q) (h.mat.zip_at hv hq) ad e e2) hrok
 refine ⟨hbl.setCell hbG _, h.bb, h.bg, hkd.far (p := ⟨G, i, none⟩) (fun e => Bk.ne_ hkd hkG' (by decide) e) _, h.rl, h.hcl, hrp.grown (set_grown w' ⟨G, i, none⟩ _) (fun hn ad e e2 => ((h.off hn).2 ad e).2 e2) (fun g e => by injection e with e; subst e; exact ⟨ah h.bb hbG, _, _, hkG', by decide⟩), h.hc, ?_, by rw [List.length_set]; exact h.len, fun hne => ⟨?_, (h.off hne).2⟩⟩
 ·exact Mat.store (by rw [hn]; rw [hn] at m1; exact m1) hn h.mat.len h.bb m2
 ·have := (h.off hne).1.app (i := i + 1) (p := (v, q)) (q := (v', q ++ us)) (h.mat.zip_at hv hq) (h.rp.at0 hne) AP.at_
  rw [List.set_cons_succ, zip_set] at this
  exact this
end
def MoveOk (b0 gd : Nat) (o : Int) (L : Option Addr) (cl : Nat) (l : List (List TermD)) (w0 w : World) (V R : Value) (r : List TermD) (qs : List (List TermD)) (k i : Nat) (E : Int × (List TermD × List TermD)) : Prop :=
 E.1 = 0 → ∃ A' c' vs', Dv b0 gd o L cl l w0 w A' c' E.2.1 V R vs' r (qs.set i E.2.2) (k + 1)
def MovePost (b0 gd : Nat) (o : Int) (L : Option Addr) (cl : Nat) (l : List (List TermD)) (w0 : World) (V R : Value) (r : List TermD) (qs : List (List TermD)) (k i : Nat) (E : Int × (List TermD × List TermD)) (e : Ending) (w' : World) : Prop :=
 e = .returned (.int .i64 E.1) ∧ Below w0.heap.size w0 w' ∧ MoveOk b0 gd o L cl l w0 w' V R r qs k i E
theorem Bk.six' {w : World} {g : Nat} {t : TypeId} {v0 v1 v2 v3 v4 v5 : Value} (h : Bk w g t #[v0, v1, v2, v3, v4, v5]) : w.cell? ⟨g, 0, none⟩ = some v0 ∧ w.cell? ⟨g, 1, none⟩ = some v1 ∧ w.cell? ⟨g, 2, none⟩ = some v2 ∧ w.cell? ⟨g, 3, none⟩ = some v3 ∧ w.cell? ⟨g, 4, none⟩ = some v4 ∧ w.cell? ⟨g, 5, none⟩ = some v5 := by
 refine ⟨?_, ?_, ?_, ?_, ?_, ?_⟩ <;> (rw [h.cell]; rfl)
theorem div_move {b0 gd : Nat} {o : Int} {L : Option Addr} {cl : Nat} {l : List (List TermD)} {w0 w : World} {A : Option Addr} {c : Nat} {p : List TermD} {V R : Value} {vs : List Value} {r : List TermD} {qs : List (List TermD)} {k i : Nat} {t u : TermD} {p' b' q : List TermD} {m : MonD} {E : Int × (List TermD × List TermD)}
    (D : Dv b0 gd o L cl l w0 w A c p V R vs r qs k) (hp : p = t :: p') (hi : l[i]? = some (u :: b')) (hmay : polMay o (u :: b') = true) (hq : qs[i]? = some q) (hsp : shortP p) (hsl : shortPs l) (hsq : q.length ≤ 60) (hk : k ≤ 400) (hE : moveD o p (u :: b') q k m = E) :
    Calls Tryz.prog 243 #[.pointer (some ⟨gd, 0, none⟩), .int .i64 i, .agg m.v] w (MovePost b0 gd o L cl l w0 V R r qs k i E) := by
 have hil : i < l.length := (List.getElem?_eq_some_iff.1 hi).1
 have D0 := aa D
 have HEQ := aa hE
 have HI := aa (af hi hq)
 have HS := aa (af hsp hsl)
 have HP := aa hp
 have hpl : 0 < p.length := by rw [hp]; simp
 have hinv := aa (polMay_inv hmay)
 obtain ⟨pa, -, -, -, -, -, hA, hpa, -, -⟩ := D0.out.rp.get hpl
 subst hA
 have HPA := aa hpa
 clear hpa
 have hqs : 0 < qs.length := by rw [D.len]; omega
 obtain ⟨G, cV, rfl, -, -, -, -⟩ := D.mat.form hqs
 obtain ⟨v, q', hv, hq', hov⟩ := D.mat.get (j := i) (by rw [D.len]; exact hil)
 have hqq : q' = q := by rw [hq] at hq'; injection hq' with hq'; exact hq'.symm
 subst hqq
 obtain ⟨Av, cv, rfl, hcv, -, -⟩ := hov.reads
 have HV := aa hv
 have hivs : (i : Int) < vs.length := by have := D.mat.len; have := D.len; omega
 have HZ0 := aa D.below.size
 clear D hE hi hq hq' hsp hsl hp hmay hv hov hqs
 go_enter Tryz.func243, Tryz.ntmps243
 go_upto_region 1 with (fail)
 refine wp_gen (fun W => Dv b0 gd o L cl l w0 W (some pa) c p (.slice (some ⟨G, 0, none⟩) vs.length cV) R vs r qs k ∧ Bk W w.heap.size 66 m.v ∧ w.heap.size ≠ gd ∧ w.heap.size ≤ W.heap.size) ⟨D0.out.up (below1 _ _), Bk.new_ _ _ _, Nat.ne_of_gt D0.out.kd.lt, (below1 _ _).size⟩ ?_
 intro W hW
 obtain ⟨g5, hg5⟩ : ∃ g5, w.heap.size = g5 := ⟨_, rfl⟩
 have hW : Hd (Dv b0 gd o L cl l w0 W (some pa) c p (.slice (some ⟨G, 0, none⟩) vs.length cV) R vs r qs k ∧ Bk W g5 66 m.v ∧ g5 ≠ gd ∧ w.heap.size ≤ W.heap.size) := by rw [← hg5]; exact hW
 rw [hg5]
 clear hg5
 obtain ⟨-, -, -, -, -, d5⟩ := hW.out.1.kd.six'
 have fz := fun i => hW.out.1.kd.froz i
 have vk : IntKind.i64.wrap ((k : Int) + 1) = ((k + 1 : Nat) : Int) := by rw [IntKind.wrap_i64]; omega
 go_upto_region 2 with (fail)
 refine wp_gen (fun W => Dv b0 gd o L cl l w0 W (some pa) c p (.slice (some ⟨G, 0, none⟩) vs.length cV) R vs r qs (k + 1) ∧ Bk W g5 66 m.v ∧ w.heap.size ≤ W.heap.size) ⟨hW.out.1.setk (k + 1), hW.out.2.1.far (p := ⟨gd, 5, none⟩) hW.out.2.2.1 _, by have := hW.out.2.2.2; simpa using this⟩ ?_
 intro W1 hW1
 have hsz1 : w.heap.size ≤ W1.heap.size := hW1.out.2.2
 have D1 := aa hW1.out.1
 have HSZ := aa hsz1
 have K1 := aa hW1.out.2.1
 clear hW hW1 d5 fz vk D0
 obtain ⟨-, -, d2, -, -, d5⟩ := D1.out.kd.six'
 by_cases hk4 : 400 ≤ k
 ·have HE : Hd (E = (120, [], [])) := ⟨by rw [← HEQ.out, HP.out]; exact if_pos hk4⟩
  have hk4' : (400 : Int) < ((k + 1 : Nat) : Int) := by omega
  go_wp2_with fail
  go_ret
  rw [HE.out]
  exact ⟨rfl, D1.out.below, fun h => by cases h⟩
 have hk4' : ¬ (400 : Int) < ((k + 1 : Nat) : Int) := by omega
 obtain ⟨la, a, pc, b, rfl, hab, hti, hcell, hpc, hrt⟩ := (D1.out.rl.up D1.out.below).get hil
 have hb' : b = u :: b' := by have := hti.out; rw [HI.out.1] at this; injection this with this; exact this.symm
 have hbl : 0 < b.length := by rw [hb']; simp
 have HBE := aa hb'
 obtain ⟨ba, B1, e1, B2, e2, u', rfl, hbb, hui, hru, q0, q1, q2, q3, q4, q5, q6⟩ := hrt.out.get hbl
 have hu' : u' = u := by have := hui.out; rw [hb'] at this; injection this with this; exact this.symm
 subst hu'
 have ea : ba.add (0 * 7) = ba := by unfold Addr.add; simp
 rw [ea] at q0 q1 q2
 have hus : u'.c.short := (HS.out.2.2 (u' :: b') (List.mem_of_getElem? HI.out.1)).2 u' (by simp)
 have CI := aa (ratio_Inv b0 _ u'.c W1 D1.out.hb0 hru.out.rat hus)
 rw [hinv.out] at CI
 have HIs := aa (invD_short hus)
 obtain ⟨I, hI⟩ : ∃ I, (invD u'.c).2 = I := ⟨_, rfl⟩
 rw [hI] at CI HIs
 have HIE := aa hI
 have i1 : (i : Int) < l.length := by omega
 have i3 : (0 : Int) ≤ i := by omega
 have b1 : (0 : Int) < b.length := by omega
 clear hb' ea hui hti hI q3 q4 q5 q6 hab hbb hus
 go_wp2_with fail
 clear d2 d5 hcell q0 q1 q2
 refine CI.out.mono ?_
 rintro e w2 ⟨x, rfl, hx, hb2⟩
 have D2 := aa (D1.out.up hb2)
 have D2s := aa hb2.size
 have K2 := aa (K1.out.up hb2)
 have HX := aa hx
 obtain ⟨XA, xc, XB, xd, rfl, -, -, -, -⟩ := hx
 clear hb2 CI D1 K1
 go_upto_region 5 with (fail)
 refine wp_gen (fun W => Dv b0 gd o (some la) cl l w0 W (some pa) c p (.slice (some ⟨G, 0, none⟩) vs.length cV) R vs r qs (k + 1) ∧ Bk W g5 66 m.v ∧ Bk W w2.heap.size 64 #[.bool I.neg, .slice XA I.num.length xc, .slice XB I.den.length xd] ∧ RRat W b0 (.agg #[.bool I.neg, .slice XA I.num.length xc, .slice XB I.den.length xd]) I) ⟨D2.out.up (below1 _ _), K2.out.al _, Bk.new_ _ _ _, HX.out.up (below1 _ _)⟩ ?_
 intro W3 hW3
 have hg7 : w.heap.size ≤ w2.heap.size := ah HSZ.out D2s.out
 generalize w2.heap.size = g7 at hW3 hg7 ⊢
 have HG7 := aa hg7
 clear hg7
 have D3 := aa hW3.out.1
 have K3 := aa hW3.out.2.1
 have C3 := aa hW3.out.2.2.1
 have X3 := aa hW3.out.2.2.2
 clear hW3 D2 K2 HX
 go_wp2_with fail
 have HPW := aa (show pa.block ≠ g7 from fun e => by have := HPA.out; have := HG7.out; omega)
 obtain ⟨ad, T1, tc1, T2, tc2, t', hA, hab, hti, hrt, q0, q1, q2, q3, q4, q5, q6⟩ := D3.out.rp.get hpl
 injection hA with hA
 subst hA
 have ht' : t' = t := by have := hti.out; rw [HP.out] at this; injection this with this; exact this.symm
 subst ht'
 have ea : pa.add (0 * 7) = pa := by unfold Addr.add; simp
 rw [ea] at q0 q1 q2
 have hts : t'.c.short := HS.out.1.2 t' (by rw [HP.out]; simp)
 have CM := aa (fun W (hB : Hd (Below W3.heap.size W3 W)) => ratio_Mul b0 _ _ t'.c I W (ah D3.out.hb0 hB.out.size) (hrt.out.rat.up hB.out) (X3.out.up hB.out) hts HIs.out)
 have HMs := aa (mulD_short t'.c I)
 obtain ⟨M, hM⟩ : ∃ M, mulD t'.c I = M := ⟨_, rfl⟩
 rw [hM] at CM HMs
 have HME := aa hM
 obtain ⟨-, d1, -, -, -, -⟩ := D3.out.kd.six'
 obtain ⟨c0, c1, c2⟩ := C3.out.three
 have p1 : (0 : Int) < p.length := by omega
 clear ea hti hrt hM hts q3 q4 q5 q6 hab
 go_cut [8] (fun v8 wx => v8 = .int .i64 M.1 ∧ Hd (Dv b0 gd o (some la) cl l w0 wx (some pa) c p (.slice (some ⟨G, 0, none⟩) vs.length cV) R vs r qs (k + 1)) ∧ Hd (Bk wx g5 66 m.v) ∧ ∃ YA yc YB yd, Hd (Bk wx g7 64 #[.bool M.2.neg, .slice YA M.2.num.length yc, .slice YB M.2.den.length yd]) ∧ Hd (RRat wx b0 (.agg #[.bool M.2.neg, .slice YA M.2.num.length yc, .slice YB M.2.den.length yd]) M.2))
 case first =>
  go_region_with (go_at_call 96; with_reducible refine (CM.out _ ⟨(ag _ _).drew⟩).mono ?_; rintro e w4 ⟨y, rfl, hy, hb4⟩
                  have hB4 : Below W3.heap.size W3 w4 := (ag W3.heap.size W3).drew.trans hb4
                  have HY := aa hy
                  obtain ⟨YA, yc, YB, yd, rfl, -, -, -, -⟩ := hy
                  have C4 := aa (C3.out.up hB4)
                  obtain ⟨r0, r1, r2⟩ := C4.out.three
                  have fz := fun i => C4.out.froz i)
  all_goals
   go_wp2_with fail
   go_meet
   refine ⟨rfl, ⟨(D3.out.up hB4).far (set3_grown w4 g7 _ _ _) C4.out (ah HZ0.out HG7.out) (by decide) (by decide) (by decide) (by decide) (fun _ ad e => by injection e with e; subst e; exact HPW.out)⟩, ⟨(K3.out.up hB4).grown (set3_grown w4 g7 _ _ _) (fun e => by injection e with e; exact Bk.ne_ (K3.out.up hB4) C4.out (by decide) e)⟩, YA, yc, YB, yd, ⟨C4.out.set3 _ _ _⟩, ⟨HY.out.grown (set3_grown w4 g7 _ _ _) (fun g e => by injection e with e; subst e; exact ⟨ah D3.out.bb (ah HZ0.out HG7.out), _, _, C4.out, by decide⟩)⟩⟩
 case rest =>
  obtain ⟨rfl, D4, K4, YA, yc, YB, yd, C4, Y4⟩ := hcut
  have HE := aa (HEQ.out.symm.trans (moveD_eq (o := o) (q := q') (m := m) HP.out rfl HIE.out HME.out hk4))
  rw [← HBE.out] at HE
  by_cases hm1 : M.1 = 0
  ·have e1 : (M.1 != 0) = false := by rw [hm1]; rfl
   clear D3 K3 C3 X3 CM c0 c1 c2 d1 q0 q1 q2
   obtain ⟨-, -, -, d3, -, -⟩ := D4.out.kd.six'
   obtain ⟨c0, c1, c2⟩ := C4.out.three
   obtain ⟨m0, m1, m2, m3⟩ := K4.out.four
   have gi := D4.out.mat.cellV HV.out
   go_wp2_with fail
   have D5 := aa (D4.out.up (ag _ _).drew)
   have K5 : Hd (Bk wc.drew g5 66 m.v) := ⟨K4.out⟩
   have C5 : Hd (Bk wc.drew g7 64 #[.bool M.2.neg, .slice YA M.2.num.length yc, .slice YB M.2.den.length yd]) := ⟨C4.out⟩
   have Y5 := aa (Y4.out.up (ag _ _).drew)
   have HS5 : Hd (wc.drew.cell? ⟨gd, 3, none⟩ = some (.slice (some ⟨G, 0, none⟩) vs.length cV) ∧ wc.drew.cell? ⟨G, i, none⟩ = some (.slice Av q'.length cv) ∧ (wc.drew.cell? ⟨g7, 0, none⟩ = some (.bool M.2.neg) ∧ wc.drew.cell? ⟨g7, 1, none⟩ = some (.slice YA M.2.num.length yc) ∧ wc.drew.cell? ⟨g7, 2, none⟩ = some (.slice YB M.2.den.length yd)) ∧ wc.drew.cell? ⟨g5, 0, none⟩ = some (.int .i64 m.x0) ∧ wc.drew.cell? ⟨g5, 1, none⟩ = some (.int .i64 m.x1) ∧ wc.drew.cell? ⟨g5, 2, none⟩ = some (.int .i64 m.x2) ∧ wc.drew.cell? ⟨g5, 3, none⟩ = some (.int .i64 m.x3)) := ⟨d3, gi, ⟨c0, c1, c2⟩, m0, m1, m2, m3⟩
   refine wp_region_head 15 17 (fun W => W.cell? ⟨gd, 3, none⟩ = some (.slice (some ⟨G, 0, none⟩) vs.length cV) ∧ W.cell? ⟨G, i, none⟩ = some (.slice Av q'.length cv) ∧ (W.cell? ⟨g7, 0, none⟩ = some (.bool M.2.neg) ∧ W.cell? ⟨g7, 1, none⟩ = some (.slice YA M.2.num.length yc) ∧ W.cell? ⟨g7, 2, none⟩ = some (.slice YB M.2.den.length yd)) ∧ W.cell? ⟨g5, 0, none⟩ = some (.int .i64 m.x0) ∧ W.cell? ⟨g5, 1, none⟩ = some (.int .i64 m.x1) ∧ W.cell? ⟨g5, 2, none⟩ = some (.int .i64 m.x2) ∧ W.cell? ⟨g5, 3, none⟩ = some (.int .i64 m.x3)) (by kernel_rfl) (by kernel_rfl) (fun c a d v w h => by cases d <;> exact h) HS5.out ?_
   clear d3 c0 c1 c2 m0 m1 m2 m3 gi D4 K4 C4 Y4
   generalize wc.drew = wd at D5 K5 C5 Y5 HS5 ⊢
   simp only [List.take_succ_cons, List.take_zero, List.drop_succ_cons, List.drop_zero]
   iterate 15 (refine ⟨?_, Or.inl ⟨by rfl, ?_⟩, ?_⟩; rotate_left; (intro W hW; obtain ⟨d3, gi, ⟨c0, c1, c2⟩, m0, m1, m2, m3⟩ := hW; go_simp; try with_reducible rfl); simp only [Act.put, List.setIfInBounds_toArray, List.set_cons_zero, List.set_cons_succ])
   have hOv := aa (D5.out.mat.fam.own (i + 1) _ (D5.out.mat.zip_at HV.out HI.out.2))
   refine wpHead_nil ?_
   change wpTail _ _ _ _ _ _ _ _ _
   refine wpTail_step (fun K hK => ?_)
   go_simp
   refine hK _ _ (fun _ => ⟨cell_up HS5.out.1 (below1 _ _), cell_up HS5.out.2.1 (below1 _ _), ⟨cell_up HS5.out.2.2.1.1 (below1 _ _), cell_up HS5.out.2.2.1.2.1 (below1 _ _), cell_up HS5.out.2.2.1.2.2 (below1 _ _)⟩, cell_up HS5.out.2.2.2.1 (below1 _ _), cell_up HS5.out.2.2.2.2.1 (below1 _ _), cell_up HS5.out.2.2.2.2.2.1 (below1 _ _), cell_up HS5.out.2.2.2.2.2.2 (below1 _ _)⟩) ?_
   clear hK K
   have HT := aa (rpol_one (t := ⟨M.2, m⟩) (rterm_of Y5.out m) 68)
   dsimp only at HT
   obtain ⟨wA, hwA⟩ : ∃ wA, wd.alloc (Obj.cells #[.bool M.2.neg, .slice YA M.2.num.length yc, .slice YB M.2.den.length yd, .int .i64 m.x0, .int .i64 m.x1, .int .i64 m.x2, .int .i64 m.x3] 68) = wA := ⟨_, rfl⟩
   have HBA : Hd (Below wd.heap.size wd wA) := ⟨by rw [← hwA]; exact below1 _ _⟩
   rw [hwA] at HT ⊢
   clear hwA
   have D6 := aa (D5.out.up HBA.out)
   have K6 := aa (K5.out.up HBA.out)
   have C6 := aa (C5.out.up HBA.out)
   have Y6 := aa (Y5.out.up HBA.out)
   have hO6 := aa (hOv.out.up HBA.out)
   have XL : Hd (q'.length + ([⟨M.2, m⟩] : List TermD).length ≤ 1000000) := ⟨by simp; omega⟩
   refine wpTail_step (fun K hK => ?_)
   refine step_append_G (us := [⟨M.2, m⟩]) rfl _ _ 25 rfl Tryz.slPoly rfl rfl rfl hO6.out HT.out D6.out.bb XL.out D6.out.below.size ?_
   intro v' w8 AP
   have hGk := (own_bk D6.out.mat.out (gp := G) rfl).1
   obtain ⟨Gcs, hGk⟩ := hGk
   have HGk := aa hGk
   have HS6 := aa (show wA.cell? ⟨G, i, none⟩ = some (.slice Av q'.length cv) from D6.out.mat.cellV HV.out)
   obtain ⟨-, -, -, z3, -, -⟩ := D6.out.kd.six'
   obtain ⟨z4, z5, z6⟩ := C6.out.three
   obtain ⟨z7, z8, z9, z10⟩ := K6.out.four
   refine hK _ _ (fun _ => ⟨cell_grown z3 AP.grow (hO6.out.ne D6.out.kd (by decide)), cell_grown HS6.out AP.grow (hO6.out.ne HGk.out (by decide)), ⟨cell_grown z4 AP.grow (hO6.out.ne C6.out (by decide)), cell_grown z5 AP.grow (hO6.out.ne C6.out (by decide)), cell_grown z6 AP.grow (hO6.out.ne C6.out (by decide))⟩, cell_grown z7 AP.grow (hO6.out.ne K6.out (by decide)), cell_grown z8 AP.grow (hO6.out.ne K6.out (by decide)), cell_grown z9 AP.grow (hO6.out.ne K6.out (by decide)), cell_grown z10 AP.grow (hO6.out.ne K6.out (by decide))⟩) ?_
   have gi8 : w8.cell? ⟨G, i, none⟩ = some (.slice Av q'.length cv) := cell_grown HS6.out AP.grow (hO6.out.ne HGk.out (by decide))
   have HG8 := aa (HGk.out.grown AP.grow (hO6.out.ne HGk.out (by decide)))
   clear hK K z3 z4 z5 z6 z7 z8 z9 z10 hGk
   have D7 := aa (D6.out.quot rfl HV.out HI.out.2 AP)
   have K7 : Hd (Bk (w8.setCell ⟨G, i, none⟩ v') g5 66 m.v) := ⟨(K6.out.grown AP.grow (hO6.out.ne K6.out (by decide))).far (p := ⟨G, i, none⟩) (fun e => Bk.ne_ (K6.out.grown AP.grow (hO6.out.ne K6.out (by decide))) HG8.out (by decide) e) _⟩
   have C7 : Hd (Bk (w8.setCell ⟨G, i, none⟩ v') g7 64 #[.bool M.2.neg, .slice YA M.2.num.length yc, .slice YB M.2.den.length yd]) := ⟨(C6.out.grown AP.grow (hO6.out.ne C6.out (by decide))).far (p := ⟨G, i, none⟩) (fun e => Bk.ne_ (C6.out.grown AP.grow (hO6.out.ne C6.out (by decide))) HG8.out (by decide) e) _⟩
   have hbG : b0 ≤ G := ah D6.out.bb (own_bk D6.out.mat.out (gp := G) rfl).2
   have Y7 := aa ((Y6.out.grown AP.grow (hO6.out.rok D6.out.bb)).grown (set_grown w8 ⟨G, i, none⟩ v') (fun g e => by injection e with e; subst e; exact ⟨hbG, _, _, HG8.out, by decide⟩))
   have fz := HG8.out.froz i
   have HO8 := aa AP.own
   clear AP hbG
   have hNl : (q' ++ [⟨M.2, m⟩] : List TermD).length = q'.length + 1 := by simp
   obtain ⟨N, hN⟩ : ∃ N, q' ++ [⟨M.2, m⟩] = N := ⟨_, rfl⟩
   rw [hN] at D7 HO8 HE hNl
   have HNl := aa hNl
   clear hN hNl
   obtain ⟨A8, c8, rfl, hc8, -, -⟩ := HO8.out.reads
   refine wpTail_step (fun K hK => ?_)
   go_simp
   refine hK _ _ (fun h => absurd h (by decide)) ?_
   clear hK K
   refine wpTail_step (fun K hK => ?_)
   go_simp
   refine hK _ _ (fun h => absurd h (by decide)) ?_
   clear hK K gi8 fz
   refine wpTail_nil ?_
   generalize w8.setCell ⟨G, i, none⟩ (.slice A8 N.length c8) = w9 at D7 K7 C7 Y7 ⊢
   have HV9 : Hd ((vs.set i (.slice A8 N.length c8))[i]? = some (.slice A8 N.length c8)) := ⟨by rw [List.getElem?_set_self']; rw [HV.out]; rfl⟩
   clear D5 K5 C5 Y5 D6 K6 C6 Y6 HS5 hOv hO6 HT HO8 HG8 HGk HS6 HBA
   obtain ⟨-, -, -, d3, -, -⟩ := D7.out.kd.six'
   have gi := D7.out.mat.cellV HV9.out
   rw [if_neg (by rw [hm1]; simp)] at HE
   clear hm1
   by_cases h60 : 60 ≤ q'.length
   ·have h60' : (60 : Int) < N.length := by have := HNl.out; omega
    have HE2 : Hd (E = (90, [], [])) := ⟨HE.out.trans (if_pos h60)⟩
    clear h60
    go_wp2_with fail
    go_ret
    rw [HE2.out]
    exact ⟨rfl, D7.out.below, fun h => by cases h⟩
   have h60' : ¬ (60 : Int) < N.length := by have := HNl.out; omega
   rw [if_neg h60] at HE
   clear h60
   go_wp2_with fail
   clear d3 gi
   obtain ⟨d0, -, d2, -, -, -⟩ := D7.out.kd.six'
   obtain ⟨c0, c1, c2⟩ := C7.out.three
   obtain ⟨m0, m1, m2, m3⟩ := K7.out.four
   obtain ⟨la', a2, pc2, b2, hL2, -, hti2, hcell, hpc2, hrt2⟩ := (D7.out.rl.up D7.out.below).get hil
   injection hL2 with hL2
   subst hL2
   have hb2 : b2 = b := by have := hti2.out; rw [HI.out.1, ← HBE.out] at this; injection this with this; exact this.symm
   subst hb2
   have hbs : shortP b2 := HS.out.2.2 b2 (List.mem_of_getElem? hti2.out)
   have CN := aa (fun W (hB : Hd (Below w9.heap.size w9 W)) => ratio_Neg b0 _ M.2 W (ah D7.out.hb0 hB.out.size) (Y7.out.up hB.out) HMs.out)
   have hXs : (negD M.2).short := by rw [negD_eq]; exact HMs.out
   obtain ⟨X, hX⟩ : ∃ X, negD M.2 = X := ⟨_, rfl⟩
   rw [hX] at CN HE hXs
   have CT := aa (fun W v (hB : Hd (Below w9.heap.size w9 W)) (hv : RTerm W b0 v ⟨X, m⟩) => poly_Times b0 o a2 pc2 b2 v ⟨X, m⟩ W (ah D7.out.hb0 hB.out.size) (hrt2.out.up hB.out) hpc2 hbs hv hXs)
   have HTs := aa (polTimes_short (o := o) (p := b2) ⟨X, m⟩ hbs)
   obtain ⟨T, hT⟩ : ∃ T, polTimes o b2 ⟨X, m⟩ = T := ⟨_, rfl⟩
   rw [hT] at CT HE HTs
   have SO := aa (fun W (hB : Below w9.heap.size w9 W) => af (aa hB) (af (cell_up d0 hB) (af (cell_up d2 hB) (af (cell_up hcell hB) (af (cell_up c0 hB) (af (cell_up c1 hB) (af (cell_up c2 hB) (af (cell_up m0 hB) (af (cell_up m1 hB) (af (cell_up m2 hB) (cell_up m3 hB)))))))))))
   clear hX hT hti2 hrt2 hXs hbs
   go_region_held3 (fun W => Hd (Below w9.heap.size w9 W) ∧ W.cell? ⟨gd, 0, none⟩ = some (.int .i64 o) ∧ W.cell? ⟨gd, 2, none⟩ = some (.slice (some la) l.length cl) ∧ W.cell? (la.add i) = some (.slice a2 b2.length pc2) ∧ W.cell? ⟨g7, 0, none⟩ = some (.bool M.2.neg) ∧ W.cell? ⟨g7, 1, none⟩ = some (.slice YA M.2.num.length yc) ∧ W.cell? ⟨g7, 2, none⟩ = some (.slice YB M.2.den.length yd) ∧ W.cell? ⟨g5, 0, none⟩ = some (.int .i64 m.x0) ∧ W.cell? ⟨g5, 1, none⟩ = some (.int .i64 m.x1) ∧ W.cell? ⟨g5, 2, none⟩ = some (.int .i64 m.x2) ∧ W.cell? ⟨g5, 3, none⟩ = some (.int .i64 m.x3))
    (first
     | with_reducible exact SO.out _ HB11.out
     | with_reducible exact SO.out _ HB10.out
     | with_reducible exact SO.out _ (ag _ _)
     | with_reducible exact SO.out _ (ag _ _).drew
     | fail)
    (first
     | (go_at_call 285; with_reducible refine (CN.out _ ⟨(ag _ _).drew⟩).mono ?_; rintro e w10 ⟨x, rfl, hx, hb⟩
        have HB10 : Hd (Below w9.heap.size w9 w10) := ⟨(ag w9.heap.size w9).drew.trans hb⟩
        have HX := aa hx
        obtain ⟨XA, xc, XB, xd, rfl, -, -, -, -⟩ := hx)
     | (go_at_call 98; with_reducible refine (CT.out _ _ HB10 (rterm_of HX.out m)).mono ?_; rintro e w11 ⟨TA, tcc, rfl, htc, hrt, hb⟩
        have HB11 : Hd (Below w9.heap.size w9 w11) := ⟨goes HB10.out hb⟩
        have HT11 := aa hrt))
   all_goals
    have D11 := aa (D7.out.up HB11.out)
    clear SO CN CT d0 d2 hcell c0 c1 c2 m0 m1 m2 m3 D7 K7 C7 Y7
    by_cases ht1 : T.1 = 0
    ·have e2 : (T.1 == 0) = true := by rw [ht1]; rfl
     rw [if_neg (by rw [ht1]; simp)] at HE
     clear ht1
     have hps2 : shortPs [p, T.2] := ⟨by simp, fun z hz => by
      simp only [List.mem_cons, List.not_mem_nil, or_false] at hz
      rcases hz with rfl | rfl
      ·exact HS.out.1
      ·exact HTs.out⟩
     obtain ⟨Y, hY⟩ : ∃ Y, polAdd o [p, T.2] = Y := ⟨_, rfl⟩
     have CA := aa (add_new hps2 hY D11.out.hb0 D11.out.rp HT11.out D11.out.hc htc)
     rw [hY] at HE
     clear hY hps2
     obtain ⟨d0, d1, -, -, -, -⟩ := D11.out.kd.six'
     have d0a := cell_up d0 (below1 w11 (Obj.cells #[.slice (some pa) p.length c, .slice TA T.2.length tcc] 25))
     have d1a := cell_up d1 (below1 w11 (Obj.cells #[.slice (some pa) p.length c, .slice TA T.2.length tcc] 25))
     go_wp2_with fail
     go_cut [8] (fun v8 wx => v8 = .int .i64 Y.1 ∧ ∃ A' c', Hd (Dv b0 gd o (some la) cl l w0 wx A' c' Y.2 (.slice (some ⟨G, 0, none⟩) vs.length cV) R (vs.set i (.slice A8 N.length c8)) r (qs.set i N) (k + 1)))
     case first =>
      go_region_with (go_at_call 99; with_reducible refine CA.out.mono ?_; rintro e w12 ⟨A12, c12, rfl, hc12, hr12, hb12, hf12⟩
                      have D12 := aa (D11.out.up hb12)
                      have fz := fun i => D12.out.kd.froz i
                      obtain ⟨-, x1, -, -, -, -⟩ := D12.out.kd.six')
      all_goals
       go_wp2_with fail
       go_meet
       exact ⟨rfl, A12, c12, ⟨D12.out.setp hr12 hc12 (fun _ => D11.out.fresh hf12)⟩⟩
     case rest =>
      obtain ⟨rfl, A13, c13, D13⟩ := hcut
      go_wp2_with fail
      go_ret
      by_cases hy : Y.1 = 0
      ·have HE2 : E = (0, Y.2, N) := HE.out.trans (if_neg (by rw [hy]; simp))
       rw [HE2]
       exact ⟨retInt hy, D13.out.below, fun _ => ⟨A13, c13, _, D13.out⟩⟩
      ·have HE2 : E = (Y.1, [], []) := HE.out.trans (if_pos hy)
       rw [HE2]
       exact ⟨rfl, D13.out.below, fun h => absurd h hy⟩
    ·have e2 : (T.1 == 0) = false := by rw [beq_eq_false_iff_ne]; exact ht1
     have HE2 : Hd (E = (T.1, [], [])) := ⟨HE.out.trans (if_pos ht1)⟩
     have HT1 := aa ht1
     clear ht1
     go_wp2_with fail
     go_ret
     rw [HE2.out]
     exact ⟨rfl, D11.out.below, fun h => absurd h HT1.out⟩
  ·have e1 : (M.1 != 0) = true := by rw [bne_iff_ne]; exact hm1
   have HE2 : Hd (E = (M.1, [], [])) := ⟨HE.out.trans (if_pos hm1)⟩
   have HM1 := aa hm1
   clear hm1
   go_wp2_with fail
   go_ret
   rw [HE2.out]
   exact ⟨rfl, D4.out.below, fun h => absurd h HM1.out⟩
section
variable {b0 gd : Nat} {o : Int} {L : Option Addr} {cl : Nat} {l : List (List TermD)} {w0 w w' : World} {A : Option Addr} {c : Nat} {p : List TermD} {V R : Value} {vs : List Value} {r : List TermD} {qs : List (List TermD)} {k : Nat}
theorem Dv.rest (h : Dv b0 gd o L cl l w0 w A c p V R vs r qs k) {R' : Value} {us : List TermD} (AP : Apg b0 w0.heap.size w w' R R' r us) :
    Dv b0 gd o L cl l w0 (w'.setCell ⟨gd, 4, none⟩ R') A c p V R' vs (r ++ us) qs k := by
 have ho := h.mat.fam.own 0 (R, r) rfl
 have hrok : Rok w b0 R.ownBlock := ho.rok h.bb
 have m1 := h.mat.beside h.bb AP.grow AP.own AP.at_
 have hgd : some gd ≠ R.ownBlock := ho.ne h.kd (by decide)
 have hkd := h.kd.grown AP.grow hgd
 have hrp : RPol w' b0 A p := h.rp.grown AP.grow (fun hn ad e e2 => (h.off hn).1 0 (R, r) rfl ad e e2) hrok
 have hbl : Below w0.heap.size w0 w' := h.below.grown AP.grow h.below.size fun g e => (ho.lt e).2.1
 refine ⟨hbl.setCell h.bg _, h.bb, h.bg, hkd.set_ 4 _, h.rl, h.hcl, hrp.grown (set_grown w' ⟨gd, 4, none⟩ _) h.offd (fun g e => by injection e with e; subst e; exact ⟨ah h.bb h.bg, _, _, hkd, by decide⟩), h.hc, m1.far (set_grown w' ⟨gd, 4, none⟩ _) hkd (ah h.bb h.bg) (by decide) (by decide) (by decide), h.len, fun hn => ⟨?_, (h.off hn).2⟩⟩
 have := (h.off hn).1.app (i := 0) (p := (R, r)) (q := (R', r ++ us)) rfl (h.rp.at0 hn) AP.at_
 simpa using this
theorem RPol.tail {ad : Addr} {t : TermD} {p' : List TermD} (h : RPol w b0 (some ad) (t :: p')) : RPol w b0 (some (ad.add 7)) p' := by
 obtain ⟨cs, h1, h2⟩ := h
 cases h2 with
 | @cons _ _ cs ds ht hts =>
   have hl := ht.len
   obtain ⟨ad', e, hb, hc⟩ := h1.2 (by simp)
   injection e with e
   subst e
   refine ⟨ds, ⟨hts.len, fun hn => ⟨_, rfl, by rw [add_block]; exact hb, fun j u hu => ?_⟩⟩, hts⟩
   rw [add_add]
   refine hc (7 + j) u ?_
   rw [List.getElem?_append_right (by omega), hl]
   simpa using hu
theorem Off.block {F : List (Value × List TermD)} {ad ad' : Addr} (h : Off F (some ad)) (e : ad'.block = ad.block) : Off F (some ad') := fun i p hi x hx => by
 injection hx with hx
 subst hx
 rw [e]
 exact h i p hi ad rfl
theorem Dv.tail {pa : Addr} {t : TermD} {p' : List TermD} (h : Dv b0 gd o L cl l w0 w (some pa) c (t :: p') V R vs r qs k) {ad : Addr} {c' : Nat} (hc' : p'.length ≤ c') (ha : p' ≠ [] → ad = pa.add 7) :
    Dv b0 gd o L cl l w0 (w.setCell ⟨gd, 1, none⟩ (.slice (some ad) p'.length c')) (some ad) c' p' V R vs r qs k := by
 refine h.setp (A' := some ad) ?_ hc' fun hn => ?_
 ·by_cases hn : p' = []
  ·subst hn; exact RPol.nil _ _ _
  ·rw [ha hn]; exact h.rp.tail
 ·have hb : ad.block = pa.block := by rw [ha hn, add_block]
  obtain ⟨h1, h2⟩ := h.off (by simp)
  refine ⟨h1.block hb, fun x hx => ?_⟩
  injection hx with hx
  subst hx
  rw [hb]
  exact h2 pa rfl
theorem Mat.reads {base : Nat} (h : Mat w b0 base V vs R r qs) : ∃ Q c, V = .slice Q qs.length c ∧ qs.length ≤ c ∧ RPols w b0 Q qs := by
 obtain ⟨Q, c, hV, hc⟩ : ∃ Q c, V = .slice Q vs.length c ∧ vs.length ≤ c := by
  rcases h.out.2 with ⟨e, h0⟩ | ⟨g, cap, cur, e, _, _, h4, _⟩
  ·exact ⟨none, 0, by rw [h0]; exact e, by omega⟩
  ·exact ⟨_, _, e, h4⟩
 refine ⟨Q, c, by rw [← h.len]; exact hV, by rw [← h.len]; exact hc, vs, ?_, fun j q hq => ?_⟩
 ·have := Rd.of_own (hV ▸ h.out)
  rw [← h.len]; exact this
 ·obtain ⟨v, q', hv, hq', ho⟩ := h.get (List.getElem?_eq_some_iff.1 hq).1
  rw [hq] at hq'
  injection hq' with hq'
  subst hq'
  obtain ⟨a, d, rfl, hd, _, hr⟩ := ho.reads
  exact ⟨a, d, hv, hd, hr⟩
end
def shorts (p : List TermD) : Prop := ∀ s ∈ p, s.c.short
theorem moveD_shorts {o : Int} {p b q : List TermD} {k : Nat} {m : MonD} (hp : shortP p) (hb : shortP b) (hq : shortP q) : shortP (moveD o p b q k m).2.1 ∧ shorts (moveD o p b q k m).2.2 := by
 have hn : shortP [] ∧ shorts [] := ⟨shortP_nil, fun s h => by cases h⟩
 unfold moveD
 split
 ·rename_i t p' u b'
  split
  ·exact hn
  ·split
   ·exact hn
   ·split
    ·exact hn
    ·split
     ·exact hn
     ·split
      ·exact hn
      ·refine ⟨polAdd_short fun z hz => ?_, fun s hs => ?_⟩
       ·simp only [List.mem_cons, List.not_mem_nil, or_false] at hz
        rcases hz with rfl | rfl
        ·exact hp
        ·exact polTimes_short _ hb
       ·rcases List.mem_append.1 hs with hs | hs
        ·exact hq.2 s hs
        ·simp only [List.mem_cons, List.not_mem_nil, or_false] at hs
         rw [hs]; exact mulD_short _ _
 ·exact hn
theorem dividesD_lt : ∀ {l : List (List TermD)} {m : MonD} {i : Nat} {q : MonD}, dividesD l m = some (i, q) → ∃ u b, l[i]? = some (u :: b) ∧ (monDiv m u.m) = (true, q)
 | [], m, i, q, h => by cases h
 | [] :: l, m, i, q, h => by
   unfold dividesD at h
   cases h2 : dividesD l m with
   | none => rw [h2] at h; cases h
   | some x =>
     rw [h2] at h
     simp only [Option.map_some, Option.some.injEq, Prod.mk.injEq] at h
     obtain ⟨rfl, rfl⟩ := h
     obtain ⟨u, b, h3, h4⟩ := dividesD_lt (i := x.1) (q := x.2) h2
     exact ⟨u, b, by simpa using h3, h4⟩
 | (u :: b) :: l, m, i, q, h => by
   unfold dividesD at h
   split at h
   ·rename_i hd
    simp only [Option.some.injEq, Prod.mk.injEq] at h
    obtain ⟨rfl, rfl⟩ := h
    exact ⟨u, b, rfl, Prod.ext hd rfl⟩
   ·cases h2 : dividesD l m with
    | none => rw [h2] at h; cases h
    | some x =>
      rw [h2] at h
      simp only [Option.map_some, Option.some.injEq, Prod.mk.injEq] at h
      obtain ⟨rfl, rfl⟩ := h
      obtain ⟨u', b', h3, h4⟩ := dividesD_lt (i := x.1) (q := x.2) h2
      exact ⟨u', b', by simpa using h3, h4⟩
end Go.Proofs.YtgjkgkgieeoalaaGreat
