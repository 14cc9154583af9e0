/- Parts of the proof, joined: each theorem says what it shows. -/
import Derived.Test.YtgjkgkgieeoalaaGreatA29
import Derived.Test.YtgjkgkgieeoalaaGreatA30
import Derived.Test.YtgjkgkgieeoalaaGreatA27
import Derived.Test.YtgjkgkgieeoalaaGreatA22
import Derived.Test.YtgjkgkgieeoalaaGreatA31
import Derived.Test.YtgjkgkgieeoalaaGreatA21
set_option linter.unusedVariables false
set_option linter.unusedSimpArgs false
set_option maxHeartbeats 24000000
set_option maxRecDepth 100000
namespace Go.Proofs.YtgjkgkgieeoalaaGreat
open Go.RowKit
def negN (r : RatD) (n : Bool) : RatD := ⟨n, r.num, r.den⟩
theorem negD_eq (r : RatD) : negD r = negN r (r.neg != !decide (r.num.length = 0)) := by
 unfold negD negN
 by_cases h : r.num.length = 0
 ·rw [if_pos h, decide_eq_true h]; simp
 ·rw [if_neg h, decide_eq_false h]; simp
theorem Mat.far {w w' : World} {b0 base g : Nat} {t : TypeId} {cs : Array Value} {V R : Value} {vs : List Value} {r : List TermD} {qs : List (List TermD)} (h : Mat w b0 base V vs R r qs) (hg : w.grownBy w' (some g)) (hk : Bk w g t cs) (hb : b0 ≤ g) (h1 : t ≠ 25) (h2 : t ≠ 68) (h3 : t ≠ 112) : Mat w' b0 base V vs R r qs := by
 refine ⟨World.ownsRow.kept h.out hg ?_, h.len, h.fam.far hg (fun g' e => by injection e with e; subst e; exact ⟨hb, t, cs, hk, h3⟩) fun i p hi => ?_⟩
 ·cases e : V.ownBlock with
  | none => exact .inl rfl
  | some G =>
    refine .inr fun e2 => ?_
    injection e2 with e2
    subst e2
    obtain ⟨⟨ds, hk2⟩, _⟩ := own_bk h.out e
    exact Bk.ne_ hk hk2 h1 rfl
 ·cases e : p.1.ownBlock with
  | none => exact .inl rfl
  | some G =>
    refine .inr fun e2 => ?_
    injection e2 with e2
    subst e2
    obtain ⟨_, _, ds, hk2⟩ := (h.fam.own i p hi).lt e
    exact Bk.ne_ hk hk2 h2 rfl
theorem RPol.at0 {w : World} {b0 : Nat} {A : Option Addr} {ts : List TermD} (h : RPol w b0 A ts) (hn : ts ≠ []) : ∀ ad, A = some ad → ad.block < w.heap.size := fun ad e => by
 have hl : 0 < ts.length := List.length_pos_iff.2 hn
 obtain ⟨ad', _, _, _, _, _, e', hb, _⟩ := h.get hl
 rw [e] at e'
 injection e' with e'
 subst e'
 exact hb
theorem Mat.cellV {w : World} {b0 base G n c : Nat} {R : Value} {vs : List Value} {r : List TermD} {qs : List (List TermD)} (h : Mat w b0 base (.slice (some ⟨G, 0, none⟩) n c) vs R r qs) {j : Nat} {v : Value} (hj : vs[j]? = some v) : w.cell? ⟨G, j, none⟩ = some v := by
 have h2 := h.out
 have hn : n = vs.length := by
  rcases h2.2 with ⟨e, _⟩ | ⟨g, cap, cur, e, _⟩
  ·cases e
  ·injection e
 have := h2.cells (g := G) rfl j v hj
 rwa [add_win, Nat.zero_add] at this
theorem moveD_eq {o : Int} {p p' b b' q : List TermD} {t u : TermD} {k : Nat} {m : MonD} {I : RatD} {M : Int × RatD} (hp : p = t :: p') (hb : b = u :: b') (hI : (invD u.c).2 = I) (hM : mulD t.c I = M) (hk : ¬ 400 ≤ k) :
    moveD o p b q k m = if M.1 ≠ 0 then (M.1, [], []) else if 60 ≤ q.length then (90, [], []) else if (polTimes o b ⟨negD M.2, m⟩).1 ≠ 0 then ((polTimes o b ⟨negD M.2, m⟩).1, [], []) else
     if (polAdd o [p, (polTimes o b ⟨negD M.2, m⟩).2]).1 ≠ 0 then ((polAdd o [p, (polTimes o b ⟨negD M.2, m⟩).2]).1, [], []) else (0, (polAdd o [p, (polTimes o b ⟨negD M.2, m⟩).2]).2, q ++ [⟨M.2, m⟩]) := by
 subst hp hb hI hM
 exact if_neg hk
theorem cell_grown {w w' : World} {row : Option Nat} {a : Addr} {v : Value} (h : w.cell? a = some v) (hg : w.grownBy w' row) (hne : some a.block ≠ row) : w'.cell? a = some v :=
 (World.cell?_of_block (hg.block _ (World.block_lt_of_cell? w a h) hne)).trans h
theorem OwnT.ne {w : World} {b0 base g : Nat} {u : Value} {q : List TermD} {t : TypeId} {cs : Array Value} (h : OwnT w b0 base u q) (hk : Bk w g t cs) (ht : t ≠ 68) : some g ≠ u.ownBlock := fun e => by
 obtain ⟨_, _, ds, hk2⟩ := h.lt e.symm
 exact Bk.ne_ hk hk2 ht rfl
structure Dv (b0 gd : Nat) (o : Int) (L : Option Addr) (cl : Nat) (l : List (List TermD)) (w0 w : World) (A : Option Addr) (c : Nat) (p : List TermD) (V R : Value) (vs : List Value) (r : List TermD) (qs : List (List TermD)) (k : Nat) : Prop where
 below : Below w0.heap.size w0 w
 bb : b0 ≤ w0.heap.size
 bg : w0.heap.size ≤ gd
 kd : Bk w gd 267 #[.int .i64 o, .slice A p.length c, .slice L l.length cl, V, R, .int .i64 k]
 rl : RPols w0 b0 L l
 hcl : l.length ≤ cl
 rp : RPol w b0 A p
 hc : p.length ≤ c
 mat : Mat w b0 w0.heap.size V vs R r qs
 len : qs.length = l.length
 off : p ≠ [] → Off ((R, r) :: vs.zip qs) A ∧ ∀ ad, A = some ad → ad.block ≠ gd ∧ V.ownBlock ≠ some ad.block
section
variable {b0 gd : Nat} {o : Int} {L : Option Addr} {cl : Nat} {l : List (List TermD)} {w0 w w' : World} {A : Option Addr} {c : Nat} {p : List TermD} {V R : Value} {vs : List Value} {r : List TermD} {qs : List (List TermD)} {k : Nat}
theorem Dv.up (h : Dv b0 gd o L cl l w0 w A c p V R vs r qs k) (hb : Below w.heap.size w w') : Dv b0 gd o L cl l w0 w' A c p V R vs r qs k :=
 ⟨goes h.below hb, h.bb, h.bg, h.kd.up hb, h.rl, h.hcl, h.rp.up hb, h.hc, h.mat.up hb, h.len, h.off⟩
theorem Dv.hb0 (h : Dv b0 gd o L cl l w0 w A c p V R vs r qs k) : b0 ≤ w.heap.size := Nat.le_trans h.bb h.below.size
theorem Dv.rok (h : Dv b0 gd o L cl l w0 w A c p V R vs r qs k) : Rok w b0 (some gd) := fun g e => by injection e with e; subst e; exact ⟨Nat.le_trans h.bb h.bg, _, _, h.kd, by decide⟩
theorem Dv.offd (h : Dv b0 gd o L cl l w0 w A c p V R vs r qs k) : p ≠ [] → ∀ ad, A = some ad → (some gd : Option Nat) ≠ some ad.block := fun hn ad e e2 => by
 injection e2 with e2; exact ((h.off hn).2 ad e).1 e2.symm
theorem Dv.matd (h : Dv b0 gd o L cl l w0 w A c p V R vs r qs k) (i : Nat) (v : Value) : Mat (w.setCell ⟨gd, i, none⟩ v) b0 w0.heap.size V vs R r qs :=
 h.mat.far (set_grown w ⟨gd, i, none⟩ v) h.kd (Nat.le_trans h.bb h.bg) (by decide) (by decide) (by decide)
theorem Dv.far {g : Nat} {t : TypeId} {cs : Array Value} (h : Dv b0 gd o L cl l w0 w A c p V R vs r qs k) (hg : w.grownBy w' (some g)) (hk : Bk w g t cs) (hb : w0.heap.size ≤ g) (h1 : t ≠ 25) (h2 : t ≠ 68) (h3 : t ≠ 112) (h4 : 267 ≠ t) (hpa : p ≠ [] → ∀ ad, A = some ad → ad.block ≠ g) : Dv b0 gd o L cl l w0 w' A c p V R vs r qs k :=
 ⟨h.below.grown hg h.below.size (fun g' e => by injection e with e; subst e; exact hb), h.bb, h.bg, h.kd.grown hg (fun e => by injection e with e; exact Bk.ne_ h.kd hk h4 e), h.rl, h.hcl, h.rp.grown hg (fun hn ad e e2 => by injection e2 with e2; exact hpa hn ad e e2.symm) (fun g' e => by injection e with e; subst e; exact ⟨Nat.le_trans h.bb hb, t, cs, hk, h3⟩), h.hc, h.mat.far hg hk (Nat.le_trans h.bb hb) h1 h2 h3, h.len, h.off⟩
theorem Dv.setp (h : Dv b0 gd o L cl l w0 w A c p V R vs r qs k) {A' : Option Addr} {c' : Nat} {p' : List TermD} (hr : RPol w b0 A' p') (hc' : p'.length ≤ c') (hf : p' ≠ [] → Off ((R, r) :: vs.zip qs) A' ∧ ∀ ad, A' = some ad → ad.block ≠ gd ∧ V.ownBlock ≠ some ad.block) :
    Dv b0 gd o L cl l w0 (w.setCell ⟨gd, 1, none⟩ (.slice A' p'.length c')) A' c' p' V R vs r qs k :=
 ⟨h.below.setCell h.bg _, h.bb, h.bg, h.kd.set_ 1 _, h.rl, h.hcl, hr.grown (set_grown w ⟨gd, 1, none⟩ _) (fun hn ad e e2 => by injection e2 with e2; exact ((hf hn).2 ad e).1 e2.symm) h.rok, hc', h.matd _ _, h.len, hf⟩
theorem Dv.fresh (h : Dv b0 gd o L cl l w0 w A c p V R vs r qs k) {A' : Option Addr} (hf : Fr w.heap.size A') : Off ((R, r) :: vs.zip qs) A' ∧ ∀ ad, A' = some ad → ad.block ≠ gd ∧ V.ownBlock ≠ some ad.block :=
 ⟨Off.fresh h.mat.fam hf, fun ad e => by
  have h1 := hf ad e
  have h2 := h.kd.lt
  refine ⟨by omega, fun e2 => ?_⟩
  obtain ⟨⟨cs, hk⟩, _⟩ := own_bk h.mat.out e2
  have := hk.lt
  omega⟩
theorem Dv.quot (h : Dv b0 gd o L cl l w0 w A c p V R vs r qs k) {i G n cV : Nat} {v v' : Value} {q us : List TermD} (hV : V = .slice (some ⟨G, 0, none⟩) n cV) (hv : vs[i]? = some v) (hq : qs[i]? = some q) (AP : Apg b0 w0.heap.size w w' v v' q us) :
    Dv b0 gd o L cl l w0 (w'.setCell ⟨G, i, none⟩ v') A c p V R (vs.set i v') r (qs.set i (q ++ us)) k := by
 subst hV
 have ho := h.mat.fam.own (i + 1) (v, q) (h.mat.zip_at hv hq)
 have hrok : Rok w b0 v.ownBlock := ho.rok h.bb
 obtain ⟨m1, m2⟩ := h.mat.inner h.bb hv hq AP.grow AP.own AP.at_
 have hn : n = vs.length := by
  rcases h.mat.out.2 with ⟨e, _⟩ | ⟨g, cap, cur, e, _⟩
  ·cases e
  ·injection e
 have hG := own_bk h.mat.out (gp := G) rfl
 obtain ⟨⟨cs, hkG⟩, hbG⟩ := hG
 obtain ⟨⟨cs', hkG'⟩, _⟩ := own_bk m1 (gp := G) rfl
 have hgd : some gd ≠ v.ownBlock := fun e => by
  obtain ⟨_, _, ds, hk2⟩ := ho.lt e.symm
  exact Bk.ne_ h.kd hk2 (by decide) rfl
 have hkd : Bk w' gd _ _ := h.kd.grown AP.grow hgd
 have hbl : Below w0.heap.size w0 w' := h.below.grown AP.grow h.below.size fun g e => (ho.lt e).2.1
 have hrp : RPol w' b0 A p := h.rp.grown AP.grow (fun hn ad e e2 => (h.off hn).1 (i + 1) (v, q) (h.mat.zip_at hv hq) ad e e2) hrok
 refine ⟨hbl.setCell hbG _, h.bb, h.bg, hkd.far (p := ⟨G, i, none⟩) (fun e => Bk.ne_ hkd hkG' (by decide) e) _, h.rl, h.hcl, hrp.grown (set_grown w' ⟨G, i, none⟩ _) (fun hn ad e e2 => ((h.off hn).2 ad e).2 e2) (fun g e => by injection e with e; subst e; exact ⟨Nat.le_trans h.bb hbG, _, _, hkG', by decide⟩), h.hc, ?_, by rw [List.length_set]; exact h.len, fun hne => ⟨?_, (h.off hne).2⟩⟩
 ·exact Mat.store (by rw [hn]; rw [hn] at m1; exact m1) hn h.mat.len h.bb m2
 ·have := (h.off hne).1.app (i := i + 1) (p := (v, q)) (q := (v', q ++ us)) (h.mat.zip_at hv hq) (h.rp.at0 hne) AP.at_
  rw [List.set_cons_succ, zip_set] at this
  exact this
end
section
variable {b0 gd : Nat} {o : Int} {L : Option Addr} {cl : Nat} {l : List (List TermD)} {w0 w w' : World} {A : Option Addr} {c : Nat} {p : List TermD} {V R : Value} {vs : List Value} {r : List TermD} {qs : List (List TermD)} {k : Nat}
theorem Dv.rest (h : Dv b0 gd o L cl l w0 w A c p V R vs r qs k) {R' : Value} {us : List TermD} (AP : Apg b0 w0.heap.size w w' R R' r us) :
    Dv b0 gd o L cl l w0 (w'.setCell ⟨gd, 4, none⟩ R') A c p V R' vs (r ++ us) qs k := by
 have ho := h.mat.fam.own 0 (R, r) rfl
 have hrok : Rok w b0 R.ownBlock := ho.rok h.bb
 have m1 := h.mat.beside h.bb AP.grow AP.own AP.at_
 have hgd : some gd ≠ R.ownBlock := ho.ne h.kd (by decide)
 have hkd := h.kd.grown AP.grow hgd
 have hrp : RPol w' b0 A p := h.rp.grown AP.grow (fun hn ad e e2 => (h.off hn).1 0 (R, r) rfl ad e e2) hrok
 have hbl : Below w0.heap.size w0 w' := h.below.grown AP.grow h.below.size fun g e => (ho.lt e).2.1
 refine ⟨hbl.setCell h.bg _, h.bb, h.bg, hkd.set_ 4 _, h.rl, h.hcl, hrp.grown (set_grown w' ⟨gd, 4, none⟩ _) h.offd (fun g e => by injection e with e; subst e; exact ⟨Nat.le_trans h.bb h.bg, _, _, hkd, by decide⟩), h.hc, m1.far (set_grown w' ⟨gd, 4, none⟩ _) hkd (Nat.le_trans h.bb h.bg) (by decide) (by decide) (by decide), h.len, fun hn => ⟨?_, (h.off hn).2⟩⟩
 have := (h.off hn).1.app (i := 0) (p := (R, r)) (q := (R', r ++ us)) rfl (h.rp.at0 hn) AP.at_
 simpa using this
theorem RPol.tail {ad : Addr} {t : TermD} {p' : List TermD} (h : RPol w b0 (some ad) (t :: p')) : RPol w b0 (some (ad.add 7)) p' := by
 obtain ⟨cs, h1, h2⟩ := h
 cases h2 with
 | @cons _ _ cs ds ht hts =>
   have hl := ht.len
   obtain ⟨ad', e, hb, hc⟩ := h1.2 (by simp)
   injection e with e
   subst e
   refine ⟨ds, ⟨hts.len, fun hn => ⟨_, rfl, by rw [add_block]; exact hb, fun j u hu => ?_⟩⟩, hts⟩
   rw [add_add]
   refine hc (7 + j) u ?_
   rw [List.getElem?_append_right (by omega), hl]
   simpa using hu
theorem Off.block {F : List (Value × List TermD)} {ad ad' : Addr} (h : Off F (some ad)) (e : ad'.block = ad.block) : Off F (some ad') := fun i p hi x hx => by
 injection hx with hx
 subst hx
 rw [e]
 exact h i p hi ad rfl
theorem Dv.tail {pa : Addr} {t : TermD} {p' : List TermD} (h : Dv b0 gd o L cl l w0 w (some pa) c (t :: p') V R vs r qs k) {ad : Addr} {c' : Nat} (hc' : p'.length ≤ c') (ha : p' ≠ [] → ad = pa.add 7) :
    Dv b0 gd o L cl l w0 (w.setCell ⟨gd, 1, none⟩ (.slice (some ad) p'.length c')) (some ad) c' p' V R vs r qs k := by
 refine h.setp (A' := some ad) ?_ hc' fun hn => ?_
 ·by_cases hn : p' = []
  ·subst hn; exact RPol.nil _ _ _
  ·rw [ha hn]; exact h.rp.tail
 ·have hb : ad.block = pa.block := by rw [ha hn, add_block]
  obtain ⟨h1, h2⟩ := h.off (by simp)
  refine ⟨h1.block hb, fun x hx => ?_⟩
  injection hx with hx
  subst hx
  rw [hb]
  exact h2 pa rfl
theorem Mat.reads {base : Nat} (h : Mat w b0 base V vs R r qs) : ∃ Q c, V = .slice Q qs.length c ∧ qs.length ≤ c ∧ RPols w b0 Q qs := by
 obtain ⟨Q, c, hV, hc⟩ : ∃ Q c, V = .slice Q vs.length c ∧ vs.length ≤ c := by
  rcases h.out.2 with ⟨e, h0⟩ | ⟨g, cap, cur, e, _, _, h4, _⟩
  ·exact ⟨none, 0, by rw [h0]; exact e, by omega⟩
  ·exact ⟨_, _, e, h4⟩
 refine ⟨Q, c, by rw [← h.len]; exact hV, by rw [← h.len]; exact hc, vs, ?_, fun j q hq => ?_⟩
 ·have := Rd.of_own (hV ▸ h.out)
  rw [← h.len]; exact this
 ·obtain ⟨v, q', hv, hq', ho⟩ := h.get (List.getElem?_eq_some_iff.1 hq).1
  rw [hq] at hq'
  injection hq' with hq'
  subst hq'
  obtain ⟨a, d, rfl, hd, _, hr⟩ := ho.reads
  exact ⟨a, d, hv, hd, hr⟩
end
def shorts (p : List TermD) : Prop := ∀ s ∈ p, s.c.short
theorem moveD_shorts {o : Int} {p b q : List TermD} {k : Nat} {m : MonD} (hp : shortP p) (hb : shortP b) (hq : shortP q) : shortP (moveD o p b q k m).2.1 ∧ shorts (moveD o p b q k m).2.2 := by
 have hn : shortP [] ∧ shorts [] := ⟨shortP_nil, fun s h => by cases h⟩
 unfold moveD
 split
 ·rename_i t p' u b'
  split
  ·exact hn
  ·split
   ·exact hn
   ·split
    ·exact hn
    ·split
     ·exact hn
     ·split
      ·exact hn
      ·refine ⟨polAdd_short fun z hz => ?_, fun s hs => ?_⟩
       ·simp only [List.mem_cons, List.not_mem_nil, or_false] at hz
        rcases hz with rfl | rfl
        ·exact hp
        ·exact polTimes_short _ hb
       ·rcases List.mem_append.1 hs with hs | hs
        ·exact hq.2 s hs
        ·simp only [List.mem_cons, List.not_mem_nil, or_false] at hs
         rw [hs]; exact mulD_short _ _
 ·exact hn
theorem dividesD_lt : ∀ {l : List (List TermD)} {m : MonD} {i : Nat} {q : MonD}, dividesD l m = some (i, q) → ∃ u b, l[i]? = some (u :: b) ∧ (monDiv m u.m) = (true, q)
 | [], m, i, q, h => by cases h
 | [] :: l, m, i, q, h => by
   unfold dividesD at h
   cases h2 : dividesD l m with
   | none => rw [h2] at h; cases h
   | some x =>
     rw [h2] at h
     simp only [Option.map_some, Option.some.injEq, Prod.mk.injEq] at h
     obtain ⟨rfl, rfl⟩ := h
     obtain ⟨u, b, h3, h4⟩ := dividesD_lt (i := x.1) (q := x.2) h2
     exact ⟨u, b, by simpa using h3, h4⟩
 | (u :: b) :: l, m, i, q, h => by
   unfold dividesD at h
   split at h
   ·rename_i hd
    simp only [Option.some.injEq, Prod.mk.injEq] at h
    obtain ⟨rfl, rfl⟩ := h
    exact ⟨u, b, rfl, Prod.ext hd rfl⟩
   ·cases h2 : dividesD l m with
    | none => rw [h2] at h; cases h
    | some x =>
      rw [h2] at h
      simp only [Option.map_some, Option.some.injEq, Prod.mk.injEq] at h
      obtain ⟨rfl, rfl⟩ := h
      obtain ⟨u', b', h3, h4⟩ := dividesD_lt (i := x.1) (q := x.2) h2
      exact ⟨u', b', by simpa using h3, h4⟩
end Go.Proofs.YtgjkgkgieeoalaaGreat
namespace Go.Proofs.YtgjkgkgieeoalaaGreat
structure Moved (o : Int) (t u : TermD) (p b q y : List TermD) (k : Nat) (c : RatD) (m : MonD) : Prop where
 good : GoodT ⟨c, m⟩
 nz : nz ⟨c, m⟩ = true
 val : qv c * qv u.c = qv t.c
 k : k < 400
 q : q.length < 60
 cp : CP o y
 fits : Fits (u :: b) m
 lin : ∀ f, lin f y + qv c * lin (fun x => f (addM x m)) (u :: b) = lin f (t :: p)
 below : ∀ s ∈ y, 0 < monCmp o t.m s.m
theorem moveD_good {o : Int} {k : Nat} {p b q : List TermD} {t u : TermD} {m : MonD} (hp : CP o (t :: p)) (hb : CP o (u :: b)) (hd : monDiv t.m u.m = (true, m)) (h0 : (moveD o (t :: p) (u :: b) q k m).1 = 0) :
    ∃ c y, moveD o (t :: p) (u :: b) q k m = (0, y, q ++ [⟨c, m⟩]) ∧ Moved o t u p b q y k c m := by
 obtain ⟨tm, um, mm, e⟩ := monDiv_true hd
 have ho := hp.ord
 have gt := hp.canon.good t (by simp)
 have gu := hb.canon.good u (by simp)
 have hu0 := hb.ne (t := u) (by simp)
 have ht0 := hp.ne (t := t) (by simp)
 obtain ⟨i1, i2⟩ := invD_q gu.c (nz_len (hb.canon.nz u (by simp)))
 unfold moveD at h0 ⊢
 dsimp only at h0 ⊢
 rw [i1] at h0 ⊢
 dsimp only at h0 ⊢
 by_cases hk : 400 ≤ k
 ·rw [if_pos hk] at h0; cases h0
 rw [if_neg hk] at h0 ⊢
 have hm2 := mulD_q gt.c (ofQ_good i2)
 rw [qv_ofQ] at hm2
 rcases hm2 with e1 | ⟨e1, hf⟩
 ·rw [e1, if_pos (by simp)] at h0; cases h0
 rw [e1, if_neg (by simp)] at h0 ⊢
 by_cases hq : 60 ≤ q.length
 ·rw [if_pos hq] at h0; cases h0
 rw [if_neg hq] at h0 ⊢
 have gc : GoodR (ofQ (qv t.c * (qv u.c)⁻¹)) := ofQ_good hf
 have vc : qv (ofQ (qv t.c * (qv u.c)⁻¹)) * qv u.c = qv t.c := by rw [qv_ofQ, Rat.mul_assoc, Rat.inv_mul_cancel _ hu0, Rat.mul_one]
 dsimp only at h0 ⊢
 generalize ofQ (qv t.c * (qv u.c)⁻¹) = c at h0 gc vc ⊢
 have vc0 : qv c ≠ 0 := fun h => ht0 (by rw [← vc, h, Rat.zero_mul])
 obtain ⟨gn, vn⟩ := negD_q gc
 have gT : GoodT ⟨negD c, m⟩ := ⟨gn, mm⟩
 have zT : nz ⟨negD c, m⟩ = true := nz_of gn (by rw [vn]; intro h; exact vc0 (by grind))
 by_cases hx : (polTimes o (u :: b) ⟨negD c, m⟩).1 = 0
 case neg => rw [if_pos (by simpa using hx)] at h0; exact absurd h0 hx
 rw [if_neg (by simpa using hx)] at h0 ⊢
 obtain ⟨x1, x2, x3⟩ := polTimes_good hb gT zT hx
 generalize (polTimes o (u :: b) ⟨negD c, m⟩).2 = X at h0 x1 x2 ⊢
 by_cases hy : (polAdd o [t :: p, X]).1 = 0
 case neg => rw [if_pos (by simpa using hy)] at h0; exact absurd h0 hy
 rw [if_neg (by simpa using hy)]
 obtain ⟨y1, y2⟩ := polAdd_good (o := o) (ps := [t :: p, X]) (fun q hq => by simp at hq; rcases hq with rfl | rfl <;> first | exact hp | exact x1) hy
 generalize (polAdd o [t :: p, X]).2 = y at y1 y2 ⊢
 have HL : ∀ f, lin f y + qv c * lin (fun x => f (addM x m)) (u :: b) = lin f (t :: p) := fun f => by
  rw [y2 f, List.flatten_cons, List.flatten_cons, List.flatten_nil, List.append_nil, lin_app, x2 f]
  show _ + qv (negD c) * _ + _ = _
  rw [vn]
  grind
 refine ⟨c, y, rfl, ⟨gc, mm⟩, nz_of gc vc0, vc, by omega, by omega, y1, x3, HL, fun s hs => ?_⟩
 have sm := (y1.canon.good s hs).m
 have hl := lin_ind_mem y1.canon.sta.keys hs
 have hn := y1.ne hs
 have H := HL (ind s.m)
 rw [hl] at H
 have lo : ∀ x ∈ b, monCmp o (addM x.m m) t.m < 0 := fun x hx => by
  have := mulM_lt ho um (hb.canon.good x (by simp [hx])).m mm (by rw [e]; exact tm) (x3 x (by simp [hx])) (hb.below x hx)
  rwa [e] at this
 rcases Int.lt_trichotomy 0 (monCmp o t.m s.m) with h | h | h
 ·exact h
 ·have es : t.m = s.m := (monCmp_zero ho tm sm).1 h.symm
  refine absurd ?_ hn
  have a1 : lin (ind s.m) (t :: p) = qv t.c := by rw [← es]; exact lin_ind_mem hp.canon.sta.keys (by simp)
  have a2 : lin (fun x => ind s.m (addM x m)) (u :: b) = qv u.c := by
   simp only [lin]
   rw [lin_van (p := b) fun x hx => ?_, e, ← es]
   ·unfold ind; rw [if_pos rfl]; grind
   ·have := lo x hx
    unfold ind
    rw [if_neg]
    intro e2
    rw [e2, ← es, (monCmp_zero ho tm tm).2 rfl] at this
    omega
  rw [a1, a2] at H
  grind
 ·refine absurd ?_ hn
  have a1 : lin (ind s.m) (t :: p) = 0 := lin_ind_not fun x hx e2 => by
   rcases List.mem_cons.1 hx with rfl | hx
   ·rw [e2, (monCmp_zero ho sm sm).2 rfl] at h; omega
   ·have := hp.below x hx; rw [e2] at this; omega
  have a2 : lin (fun x => ind s.m (addM x m)) (u :: b) = 0 := lin_van fun x hx => by
   unfold ind
   rw [if_neg]
   intro e2
   rcases List.mem_cons.1 hx with rfl | hx
   ·rw [← e2, e, (monCmp_zero ho tm tm).2 rfl] at h; omega
   ·have h2 := lo x hx
    rw [e2] at h2
    have h3 := monCmp_anti ho tm sm
    omega
  rw [a1, a2] at H
  grind
def linQ (f : MonD → Rat) : List (List TermD) → List (List TermD) → Rat
 | b :: l, q :: qs => linP f b q + linQ f l qs
 | [], _ => 0
 | _ :: _, [] => 0
theorem linQ_nils (f : MonD → Rat) : ∀ l : List (List TermD), linQ f l (List.replicate l.length []) = 0
 | [] => rfl
 | b :: l => by
   rw [List.length_cons, List.replicate_succ]
   simp only [linQ]
   rw [linQ_nils f l]
   show 0 + 0 = (0 : Rat)
   grind
structure QOk (o : Int) (l : List (List TermD)) (P0 p : List TermD) (i : Nat) (q : List TermD) : Prop where
 canon : Canon o q
 len : q.length ≤ 60
 each : ∀ x ∈ q, ∃ u b, l[i]? = some (u :: b) ∧ Fits (u :: b) x.m ∧ (∀ t ∈ p, 0 < monCmp o (addM u.m x.m) t.m) ∧ ∃ t0 ps0, P0 = t0 :: ps0 ∧ 0 ≤ monCmp o t0.m (addM u.m x.m)
structure DivI (o : Int) (l : List (List TermD)) (P0 p : List TermD) (qs : List (List TermD)) (r : List TermD) : Prop where
 cp : CP o p
 cr : CP o r
 rp : ∀ s ∈ r, ∀ t ∈ p, 0 < monCmp o s.m t.m
 rd : ∀ s ∈ r, dividesD l s.m = none
 ql : qs.length = l.length
 q : ∀ i q, qs[i]? = some q → QOk o l P0 p i q
 pl : ∀ t ∈ p, ∃ t0 ps0, P0 = t0 :: ps0 ∧ 0 ≤ monCmp o t0.m t.m
 sum : ∀ f, lin f p + lin f r + linQ f l qs = lin f P0
theorem DivI.start {o : Int} {l : List (List TermD)} {p : List TermD} (hp : CP o p) : DivI o l p p (List.replicate l.length []) [] := by
 refine ⟨hp, .nil hp.ord, fun s h => (by cases h), fun s h => (by cases h), by simp, fun i q h => ?_, fun t ht => ?_, fun f => ?_⟩
 ·obtain rfl : q = [] := List.eq_of_mem_replicate (List.mem_of_getElem? h)
  exact ⟨canon_nil hp.ord, by simp, fun x hx => by cases hx⟩
 ·cases p with
  | nil => cases ht
  | cons t0 ps0 =>
    refine ⟨t0, ps0, rfl, ?_⟩
    rcases List.mem_cons.1 ht with rfl | ht
    ·have m := (hp.canon.good t (by simp)).m
     exact Int.le_of_eq ((monCmp_zero hp.ord m m).2 rfl).symm
    ·exact Int.le_of_lt (hp.below t ht)
 ·rw [linQ_nils]
  simp only [lin]
  grind
theorem may_all {o : Int} {p : List TermD} {l : List (List TermD)} (hp : CP o p) (hl : ∀ b ∈ l, CP o b) (h : l.length ≤ 24) : ¬ (polMay o p && decide (l.length ≤ 24) && l.all (polMay o)) = false := by
 rw [hp.may, decide_eq_true h, List.all_eq_true.2 fun b hb => (hl b hb).may]
 simp
theorem splitD_F {o : Int} {p : List TermD} {l : List (List TermD)} (hp : CP o p) (hl : ∀ b ∈ l, CP o b) (h : l.length ≤ 24) : splitD o p l = splitF o l (400 * 61 + 61) p (List.replicate l.length []) [] 0 := if_neg (may_all hp hl h)
theorem lead_lin {o : Int} {u v : TermD} {p b s : List TermD} (hb : CP o (u :: b)) (hs : Canon o (v :: s)) (hf : ∀ x ∈ v :: s, Fits (u :: b) x.m) (hp : CP o p) (hl : ∀ f, lin f p = linP f (u :: b) (v :: s)) :
    ∃ t p', p = t :: p' ∧ t.m = addM u.m v.m ∧ qv t.c = qv u.c * qv v.c := by
 have ho := hb.ord
 have gb := hb.canon.sta.good
 have gs := hs.sta.good
 obtain ⟨fs, _⟩ := List.pairwise_cons.1 hs.sta.fall
 have fb := hb.below
 have W := hf v (by simp) u (by simp)
 have lt1 : ∀ x ∈ b, ∀ y ∈ v :: s, monCmp o (addM x.m y.m) (addM u.m y.m) < 0 := fun x hx y hy =>
  mulM_lt ho (gb u (by simp)) (gb x (by simp [hx])) (gs y hy) (hf y hy u (by simp)) (hf y hy x (by simp [hx])) (fb x hx)
 have lt2 : ∀ y ∈ s, monCmp o (addM u.m y.m) (addM u.m v.m) < 0 := fun y hy => by
  have := mulM_lt ho (gs v (by simp)) (gs y (by simp [hy])) (gb u (by simp)) (by rw [addM_comm]; exact W) (by rw [addM_comm]; exact hf y (by simp [hy]) u (by simp)) (fs y hy)
  rwa [addM_comm y.m, addM_comm v.m] at this
 have lt3 : ∀ x ∈ u :: b, ∀ y ∈ s, monCmp o (addM x.m y.m) (addM u.m v.m) < 0 := fun x hx y hy => by
  have hy' : y ∈ v :: s := by simp [hy]
  rcases List.mem_cons.1 hx with rfl | hx
  ·exact lt2 y hy
  ·exact monCmp_lt ho (hf y hy' x (by simp [hx])) (hf y hy' u (by simp)) W (lt1 x hx y hy') (lt2 y hy)
 have ne : ∀ {m : MonD}, monMay m = true → monCmp o m (addM u.m v.m) < 0 → m ≠ addM u.m v.m := fun hm h e => by
  have := (monCmp_zero ho hm W).2 e
  omega
 have hG : lin (ind (addM u.m v.m)) p = qv u.c * qv v.c := by
  rw [hl]
  unfold linP
  simp only [lin]
  rw [lin_van (p := s) (fun y hy => ?_), lin_van (p := b) (fun x hx => ?_)]
  ·unfold ind
   rw [if_pos rfl]
   grind
  ·unfold ind
   rw [if_neg (ne (hf v (by simp) x (by simp [hx])) (lt1 x hx v (by simp)))]
  ·show qv u.c * ind (addM u.m v.m) (addM u.m y.m) + lin (fun m => ind (addM u.m v.m) (addM m y.m)) b = 0
   have hy' : y ∈ v :: s := by simp [hy]
   rw [lin_van (p := b) (fun x hx => ?_)]
   ·unfold ind
    rw [if_neg (ne (hf y hy' u (by simp)) (lt3 u (by simp) y hy))]
    grind
   ·unfold ind
    rw [if_neg (ne (hf y hy' x (by simp [hx])) (lt3 x (by simp [hx]) y hy))]
 have hne : qv u.c * qv v.c ≠ 0 := by
  have a1 := hb.ne (t := u) (by simp)
  have a2 := (hs.good v (by simp)).ne (hs.nz v (by simp))
  intro h
  rcases Rat.mul_eq_zero.1 h with h | h
  ·exact a1 h
  ·exact a2 h
 have hle : ∀ x ∈ p, monCmp o x.m (addM u.m v.m) ≤ 0 := fun x hx => by
  refine Classical.byContradiction fun hn => ?_
  have xm := (hp.canon.good x hx).m
  have h1 := lin_ind_mem hp.canon.sta.keys hx
  rw [hl] at h1
  refine hp.ne hx (h1.symm.trans ?_)
  refine lin_van fun y hy => lin_van fun z hz => ?_
  unfold ind
  rw [if_neg]
  intro e
  rw [← e] at hn
  refine hn ?_
  rcases List.mem_cons.1 hy with rfl | hy
  ·rcases List.mem_cons.1 hz with rfl | hz
   ·exact Int.le_of_eq ((monCmp_zero ho W W).2 rfl)
   ·exact Int.le_of_lt (lt1 z hz y (by simp))
  ·exact Int.le_of_lt (lt3 z hz y hy)
 have hex : ∃ x ∈ p, x.m = addM u.m v.m := by
  refine Classical.byContradiction fun hn => ?_
  rw [lin_ind_not (fun x hx e => hn ⟨x, hx, e⟩)] at hG
  exact hne hG.symm
 obtain ⟨x, hx, ex⟩ := hex
 match p, hp, hle, hx, hG with
 | y :: r, hp, hle, hx, hG =>
   have em : y.m = addM u.m v.m := by
    rcases List.mem_cons.1 hx with rfl | hx
    ·exact ex
    ·have h1 := hp.below x hx
     have h2 := hle y (by simp)
     rw [ex] at h1
     omega
   refine ⟨y, r, rfl, em, ?_⟩
   rw [← hG, ← em]
   exact (lin_ind_mem hp.canon.sta.keys (by simp)).symm
theorem SmP.tl {o : Int} {t : TermD} {p : List TermD} (h : SmP o (t :: p)) : SmP o p := by
 obtain ⟨⟨hi, hc, hl⟩, low, h10⟩ := h
 simp only [List.length_cons] at hl h10
 refine ⟨⟨⟨hi.int.tl, fun s hs => hi.good s (by simp [hs]), ?_⟩, hc.tl, by omega⟩, fun s hs => low s (by simp [hs]), by omega⟩
 have := hi.mass
 unfold mass at this
 omega
end Go.Proofs.YtgjkgkgieeoalaaGreat
namespace Go.Proofs.YtgjkgkgieeoalaaGreat
open Go.RowKit
def minM (a b : MonD) : MonD := ⟨min a.x0 b.x0, min a.x1 b.x1, min a.x2 b.x2, min a.x3 b.x3⟩
def monCop (a b : MonD) : Bool := monMay a && monMay b && decide (minM a b = zeroM)
theorem cop_1 (x y : Int) (w : World) : Calls Tryz.prog 163 #[.int .i64 x, .int .i64 y] w fun e w' => e = .returned (.int .i64 (min x y)) ∧ w = w' := by
 go_enter Tryz.func163, Tryz.ntmps163
 go_wp2_with fail
 go_ret
 exact ⟨rfl, rfl⟩
theorem zip_cop (a b z : MonD) (hz : z = ⟨min a.x0 b.x0, min a.x1 b.x1, min a.x2 b.x2, min a.x3 b.x3⟩) (w : World) (hma : monMay a = true) (hmb : monMay b = true) :
    Calls Tryz.prog 162 #[.agg #[.int .i64 a.x0, .int .i64 a.x1, .int .i64 a.x2, .int .i64 a.x3], .agg #[.int .i64 b.x0, .int .i64 b.x1, .int .i64 b.x2, .int .i64 b.x3], .func (.func 163) #[] #[]] w fun e w' => e = .returned (.agg #[.int .i64 (z).x0, .int .i64 (z).x1, .int .i64 (z).x2, .int .i64 (z).x3]) ∧ Blw w.heap.size w w' := by
 obtain ⟨ra0, ra1, ra2, ra3⟩ := monMay_of hma
 obtain ⟨rb0, rb1, rb2, rb3⟩ := monMay_of hmb
 have F0 := Hd.mk (fun W => cop_1 a.x0 b.x0 W)
 have F1 := Hd.mk (fun W => cop_1 a.x1 b.x1 W)
 have F2 := Hd.mk (fun W => cop_1 a.x2 b.x2 W)
 have F3 := Hd.mk (fun W => cop_1 a.x3 b.x3 W)
 have z0 : min a.x0 b.x0 = z.x0 := by rw [hz]
 have z1 : min a.x1 b.x1 = z.x1 := by rw [hz]
 have z2 : min a.x2 b.x2 = z.x2 := by rw [hz]
 have z3 : min a.x3 b.x3 = z.x3 := by rw [hz]
 rw [z0] at F0; rw [z1] at F1; rw [z2] at F2; rw [z3] at F3
 clear hz z0 z1 z2 z3 ra0 ra1 ra2 ra3 rb0 rb1 rb2 rb3 hma hmb
 go_enter Tryz.func162, Tryz.ntmps162
 go_upto_region 1 with (fail)
 refine wp_gen (fun W => ∃ g3, g3 = w.heap.size + 1 + 1 ∧ Bm2 w.heap.size w.heap.size (w.heap.size + 1) w W a b ∧ Bk W g3 66 #[.int .i64 (part z 0).x0, .int .i64 (part z 0).x1, .int .i64 (part z 0).x2, .int .i64 (part z 0).x3]) ⟨_, rfl, (Bm2.mk2 w a b).up ((Blw.refl _ _).alloc (Nat.le_refl _) _), by
  have := Bk.new_ ((w.alloc (Obj.cells #[.int .i64 a.x0, .int .i64 a.x1, .int .i64 a.x2, .int .i64 a.x3] 66)).alloc (Obj.cells #[.int .i64 b.x0, .int .i64 b.x1, .int .i64 b.x2, .int .i64 b.x3] 66)) 66 #[.int .i64 (part z 0).x0, .int .i64 (part z 0).x1, .int .i64 (part z 0).x2, .int .i64 (part z 0).x3]
  simpa [part] using this⟩ ?_
 rintro W ⟨⟨g3, hg3, BX, K3⟩⟩
 have n3 : w.heap.size ≤ g3 ∧ g3 ≠ w.heap.size ∧ g3 ≠ w.heap.size + 1 := by omega
 rw [← hg3]
 have BX := Hd.mk BX
 have K3 := Hd.mk K3
 clear hg3
 generalize w.heap.size + 1 = g2 at BX n3 ⊢
 obtain ⟨n3a, n3b, n3c⟩ := n3
 go_wp2_with fail
 go_loopw [8] (fun v8 wr => ∃ i : Nat, v8 = .int .i64 i ∧ i ≤ 4 ∧ Hd (Bm2 w.heap.size w.heap.size g2 w wr a b) ∧ Hd (Bk wr g3 66 #[.int .i64 (part z i).x0, .int .i64 (part z i).x1, .int .i64 (part z i).x2, .int .i64 (part z i).x3])) (fun v _ => 4 - (intOf v).toNat)
 case atStart => exact ⟨0, rfl, by omega, BX, K3⟩
 case round =>
  clear BX K3
  obtain ⟨i, rfl, hi, BX, K3⟩ := hrel
  obtain ⟨c0, c1, c2, c3⟩ := BX.out.k1.four
  obtain ⟨d0, d1, d2, d3⟩ := BX.out.k2.four
  rcases (show i = 0 ∨ i = 1 ∨ i = 2 ∨ i = 3 ∨ i = 4 by omega) with rfl | rfl | rfl | rfl | rfl
  ·have k3 : Bk wr g3 66 #[.int .i64 (part z 0).x0, .int .i64 (part z 0).x1, .int .i64 (part z 0).x2, .int .i64 (part z 0).x3] := K3.out
   obtain ⟨e0, e1, e2, e3⟩ := k3.four
   have fz := k3.froz 0
   clear k3
   go_wp2_with fail
   go_region_held3 (fun w' => Hd (Blw w.heap.size w w') ∧ w'.cell? ⟨w.heap.size, 0, none⟩ = some (.int .i64 a.x0) ∧ w'.cell? ⟨g2, 0, none⟩ = some (.int .i64 b.x0))
    (first
     | exact ⟨⟨BX.out.below⟩, c0, d0⟩
     | exact ⟨⟨(BX.out.dn 1).below⟩, c0, d0⟩
     | exact ⟨⟨(BX.out.dn 1).below.setCell n3a _⟩, (far1 rfl n3b).trans c0, (far1 rfl n3c).trans d0⟩)
    (first | (go_at_call 163; with_reducible refine (F0.out _).mono ?_; rintro e w4 ⟨rfl, rfl⟩))
   all_goals (
    go_wp2_with fail
    go_roundw
    case measure => first | (simp [intOf]; done) | (simp [intOf]; omega)
    case rel =>
     refine ⟨1, rfl, by omega, ⟨⟨(BX.out.dn 1).below.setCell n3a _, BX.out.s1, BX.out.s2, BX.out.n12, (BX.out.dn 1).k1.far n3b.symm _, (BX.out.dn 1).k2.far n3c.symm _⟩⟩, ⟨?_⟩⟩
     exact (show Bk wr.drew g3 66 #[.int .i64 (part z 0).x0, .int .i64 (part z 0).x1, .int .i64 (part z 0).x2, .int .i64 (part z 0).x3] from K3.out).set_ 0 (.int .i64 z.x0))
  ·have k3 : Bk wr g3 66 #[.int .i64 (part z 1).x0, .int .i64 (part z 1).x1, .int .i64 (part z 1).x2, .int .i64 (part z 1).x3] := K3.out
   obtain ⟨e0, e1, e2, e3⟩ := k3.four
   have fz := k3.froz 1
   clear k3
   go_wp2_with fail
   go_region_held3 (fun w' => Hd (Blw w.heap.size w w') ∧ w'.cell? ⟨w.heap.size, 1, none⟩ = some (.int .i64 a.x1) ∧ w'.cell? ⟨g2, 1, none⟩ = some (.int .i64 b.x1))
    (first
     | exact ⟨⟨BX.out.below⟩, c1, d1⟩
     | exact ⟨⟨(BX.out.dn 1).below⟩, c1, d1⟩
     | exact ⟨⟨(BX.out.dn 1).below.setCell n3a _⟩, (far1 rfl n3b).trans c1, (far1 rfl n3c).trans d1⟩)
    (first | (go_at_call 163; with_reducible refine (F1.out _).mono ?_; rintro e w4 ⟨rfl, rfl⟩))
   all_goals (
    go_wp2_with fail
    go_roundw
    case measure => first | (simp [intOf]; done) | (simp [intOf]; omega)
    case rel =>
     refine ⟨2, rfl, by omega, ⟨⟨(BX.out.dn 1).below.setCell n3a _, BX.out.s1, BX.out.s2, BX.out.n12, (BX.out.dn 1).k1.far n3b.symm _, (BX.out.dn 1).k2.far n3c.symm _⟩⟩, ⟨?_⟩⟩
     exact (show Bk wr.drew g3 66 #[.int .i64 (part z 1).x0, .int .i64 (part z 1).x1, .int .i64 (part z 1).x2, .int .i64 (part z 1).x3] from K3.out).set_ 1 (.int .i64 z.x1))
  ·have k3 : Bk wr g3 66 #[.int .i64 (part z 2).x0, .int .i64 (part z 2).x1, .int .i64 (part z 2).x2, .int .i64 (part z 2).x3] := K3.out
   obtain ⟨e0, e1, e2, e3⟩ := k3.four
   have fz := k3.froz 2
   clear k3
   go_wp2_with fail
   go_region_held3 (fun w' => Hd (Blw w.heap.size w w') ∧ w'.cell? ⟨w.heap.size, 2, none⟩ = some (.int .i64 a.x2) ∧ w'.cell? ⟨g2, 2, none⟩ = some (.int .i64 b.x2))
    (first
     | exact ⟨⟨BX.out.below⟩, c2, d2⟩
     | exact ⟨⟨(BX.out.dn 1).below⟩, c2, d2⟩
     | exact ⟨⟨(BX.out.dn 1).below.setCell n3a _⟩, (far1 rfl n3b).trans c2, (far1 rfl n3c).trans d2⟩)
    (first | (go_at_call 163; with_reducible refine (F2.out _).mono ?_; rintro e w4 ⟨rfl, rfl⟩))
   all_goals (
    go_wp2_with fail
    go_roundw
    case measure => first | (simp [intOf]; done) | (simp [intOf]; omega)
    case rel =>
     refine ⟨3, rfl, by omega, ⟨⟨(BX.out.dn 1).below.setCell n3a _, BX.out.s1, BX.out.s2, BX.out.n12, (BX.out.dn 1).k1.far n3b.symm _, (BX.out.dn 1).k2.far n3c.symm _⟩⟩, ⟨?_⟩⟩
     exact (show Bk wr.drew g3 66 #[.int .i64 (part z 2).x0, .int .i64 (part z 2).x1, .int .i64 (part z 2).x2, .int .i64 (part z 2).x3] from K3.out).set_ 2 (.int .i64 z.x2))
  ·have k3 : Bk wr g3 66 #[.int .i64 (part z 3).x0, .int .i64 (part z 3).x1, .int .i64 (part z 3).x2, .int .i64 (part z 3).x3] := K3.out
   obtain ⟨e0, e1, e2, e3⟩ := k3.four
   have fz := k3.froz 3
   clear k3
   go_wp2_with fail
   go_region_held3 (fun w' => Hd (Blw w.heap.size w w') ∧ w'.cell? ⟨w.heap.size, 3, none⟩ = some (.int .i64 a.x3) ∧ w'.cell? ⟨g2, 3, none⟩ = some (.int .i64 b.x3))
    (first
     | exact ⟨⟨BX.out.below⟩, c3, d3⟩
     | exact ⟨⟨(BX.out.dn 1).below⟩, c3, d3⟩
     | exact ⟨⟨(BX.out.dn 1).below.setCell n3a _⟩, (far1 rfl n3b).trans c3, (far1 rfl n3c).trans d3⟩)
    (first | (go_at_call 163; with_reducible refine (F3.out _).mono ?_; rintro e w4 ⟨rfl, rfl⟩))
   all_goals (
    go_wp2_with fail
    go_roundw
    case measure => first | (simp [intOf]; done) | (simp [intOf]; omega)
    case rel =>
     refine ⟨4, rfl, by omega, ⟨⟨(BX.out.dn 1).below.setCell n3a _, BX.out.s1, BX.out.s2, BX.out.n12, (BX.out.dn 1).k1.far n3b.symm _, (BX.out.dn 1).k2.far n3c.symm _⟩⟩, ⟨?_⟩⟩
     exact (show Bk wr.drew g3 66 #[.int .i64 (part z 3).x0, .int .i64 (part z 3).x1, .int .i64 (part z 3).x2, .int .i64 (part z 3).x3] from K3.out).set_ 3 (.int .i64 z.x3))
  ·have k3 : Bk wr g3 66 #[.int .i64 (z).x0, .int .i64 (z).x1, .int .i64 (z).x2, .int .i64 (z).x3] := K3.out
   obtain ⟨e0, e1, e2, e3⟩ := k3.four
   have fz := fun i => k3.froz i
   have K4 := Hd.mk k3
   clear k3 K3
   go_wp2_with fail
   refine bodyPost_ret (res_mono rfl _ _ g3 _ rfl (K4.out.set4 _ _ _ _) rfl) rfl ?_
   exact ⟨rfl, (((BX.out.below.setCell n3a _).setCell n3a _).setCell n3a _).setCell n3a _⟩
theorem mono_Coprime (a b : MonD) (w : World) :
    Calls Tryz.prog 90 #[.agg #[.int .i64 a.x0, .int .i64 a.x1, .int .i64 a.x2, .int .i64 a.x3], .agg #[.int .i64 b.x0, .int .i64 b.x1, .int .i64 b.x2, .int .i64 b.x3]] w fun e w' =>
     e = .returned (.bool (monCop a b)) ∧ Blw w.heap.size w w' := by
 obtain ⟨E, hE⟩ : ∃ E, monCop a b = E := ⟨_, rfl⟩
 rw [hE]
 have HEQ := Hd.mk hE
 clear hE
 go_enter Tryz.func90, Tryz.ntmps90
 go_upto_region 1 with (fail)
 refine wp_gen (fun W => Bm2 w.heap.size w.heap.size (w.heap.size + 1) w W a b) (Bm2.mk2 w a b) ?_
 intro W BX
 generalize w.heap.size + 1 = g2 at BX ⊢
 obtain ⟨c0, c1, c2, c3⟩ := BX.out.k1.four
 have CA := Hd.mk (mono_May a W)
 cases hma : monMay a
 ·have HE : Hd (monCop a b = false) := ⟨by unfold monCop; rw [hma]; rfl⟩
  rw [hma] at CA
  go_wp2_with fail
  refine CA.out.mono ?_
  rintro e w4 ⟨rfl, hb⟩
  have BX4 := Hd.mk (BX.out.up hb)
  clear hb
  go_wp2_with fail
  go_ret
  have h5 := HEQ.out.symm.trans HE.out
  subst h5
  exact ⟨rfl, BX4.out.below⟩
 ·rw [hma] at CA
  go_wp2_with fail
  refine CA.out.mono ?_
  rintro e w4 ⟨rfl, hb⟩
  have BX4 := Hd.mk (BX.out.up hb)
  obtain ⟨p0, p1, p2, p3⟩ := BX4.out.k2.four
  have CB := Hd.mk (mono_May b w4)
  clear hb c0 c1 c2 c3 BX CA
  cases hmb : monMay b
  ·have HE : Hd (monCop a b = false) := ⟨by unfold monCop; rw [hmb]; simp⟩
   rw [hmb] at CB
   go_wp2_with fail
   refine CB.out.mono ?_
   rintro e w5 ⟨rfl, hb⟩
   have BX5 := Hd.mk (BX4.out.up hb)
   clear hb
   go_wp2_with fail
   go_ret
   have h5 := HEQ.out.symm.trans HE.out
   subst h5
   exact ⟨rfl, BX5.out.below⟩
  ·rw [hmb] at CB
   have HE : Hd (monCop a b = decide (minM a b = zeroM)) := ⟨by unfold monCop; rw [hma, hmb]; rfl⟩
   obtain ⟨z, hz⟩ : ∃ z, z = minM a b := ⟨_, rfl⟩
   rw [← hz] at HE
   have ZP := Hd.mk (fun W => zip_cop a b z hz W hma hmb)
   clear hma hmb hz
   go_wp2_with fail
   refine CB.out.mono ?_
   rintro e w5 ⟨rfl, hb⟩
   have BX5 := Hd.mk (BX4.out.up hb)
   obtain ⟨c0, c1, c2, c3⟩ := BX5.out.k1.four
   obtain ⟨p0, p1, p2, p3⟩ := BX5.out.k2.four
   clear hb CB
   go_wp2_with fail
   refine (ZP.out w5).mono ?_
   rintro e w6 ⟨rfl, hb⟩
   have BX6 := Hd.mk (BX5.out.up hb)
   clear hb ZP
   have QE := fun W => eq_mono z zeroM W
   simp only [MonD.v, zeroM] at QE
   cases hz : decide (z = zeroM)
   all_goals
    simp only [zeroM] at hz
    rw [hz] at QE
    go_wp2_with fail
    go_ret
    have h5 := HEQ.out.symm.trans (HE.out.trans hz)
    subst h5
    exact ⟨rfl, BX6.out.below⟩
end Go.Proofs.YtgjkgkgieeoalaaGreat
