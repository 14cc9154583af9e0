/- Parts of the proof, joined: what each says stands at its head. -/
import Derived.Test.YtjanagclahkfdaaGreatM24
import Derived.Test.YtjanagclahkfdaaGreatM25
import Derived.Test.YtjanagclahkfdaaGreatM28
import Derived.Test.YtjanagclahkfdaaGreatM01
import Derived.OrdersHeld
import Derived.StillTail
set_option linter.unusedVariables false
set_option linter.unusedSimpArgs false
set_option maxHeartbeats 24000000
set_option maxRecDepth 100000
namespace Go.Proofs.YtjanagclahkfdaaGreat
open Go.RowKit
theorem Mat.far {w w' : World} {b0 base g : Nat} {t : TypeId} {cs : Array Value} {V R : Value} {vs : List Value} {r : List TermD} {qs : List (List TermD)} (h : Mat w b0 base V vs R r qs) (hg : w.grownBy w' (some g)) (hk : Bk w g t cs) (hb : b0 ≤ g) (h1 : t ≠ 23) (h2 : t ≠ 53) (h3 : t ≠ 100) : Mat w' b0 base V vs R r qs := by
 refine ⟨World.ownsRow.kept h.out hg ?_, h.len, h.fam.far hg (fun g' e => by injection e with e; subst e; exact ⟨hb, t, cs, hk, h3⟩) fun i p hi => ?_⟩
 ·cases e : V.ownBlock with
  | none => exact .inl rfl
  | some G =>
    refine .inr fun e2 => ?_
    injection e2 with e2
    subst e2
    obtain ⟨⟨ds, hk2⟩, _⟩ := own_bk h.out e
    exact Bk.ne_ hk hk2 h1 rfl
 ·cases e : p.1.ownBlock with
  | none => exact .inl rfl
  | some G =>
    refine .inr fun e2 => ?_
    injection e2 with e2
    subst e2
    obtain ⟨_, _, ds, hk2⟩ := (h.fam.own i p hi).lt e
    exact Bk.ne_ hk hk2 h2 rfl
theorem RPol.at0 {w : World} {b0 : Nat} {A : Option Addr} {ts : List TermD} (h : RPol w b0 A ts) (hn : ts ≠ []) : ∀ ad, A = some ad → ad.block < w.heap.size := fun ad e => by
 have hl : 0 < ts.length := List.length_pos_iff.2 hn
 obtain ⟨ad', _, _, _, _, _, e', hb, _⟩ := h.get hl
 rw [e] at e'
 injection e' with e'
 subst e'
 exact hb
theorem set3_grown (w : World) (g : Nat) (x y z : Value) : w.grownBy (((w.setCell ⟨g, 0, none⟩ x).setCell ⟨g, 1, none⟩ y).setCell ⟨g, 2, none⟩ z) (some g) := ((set_grown w ⟨g, 0, none⟩ x).set 1 y).set 2 z
theorem Mat.cellV {w : World} {b0 base G n c : Nat} {R : Value} {vs : List Value} {r : List TermD} {qs : List (List TermD)} (h : Mat w b0 base (.slice (some ⟨G, 0, none⟩) n c) vs R r qs) {j : Nat} {v : Value} (hj : vs[j]? = some v) : w.cell? ⟨G, j, none⟩ = some v := by
 have h2 := h.out
 have hn : n = vs.length := by
  rcases h2.2 with ⟨e, _⟩ | ⟨g, cap, cur, e, _⟩
  ·cases e
  ·injection e
 have := h2.cells (g := G) rfl j v hj
 rwa [add_win, Nat.zero_add] at this
theorem moveD_eq {o : Int} {p p' b b' q : List TermD} {t u : TermD} {k : Nat} {m : MonD} {I : RatD} {M : Int × RatD} (hp : p = t :: p') (hb : b = u :: b') (hI : (invD u.c).2 = I) (hM : mulD t.c I = M) (hk : ¬ 400 ≤ k) :
    moveD o p b q k m = if M.1 ≠ 0 then (M.1, [], []) else if 60 ≤ q.length then (90, [], []) else if (polTimes o b ⟨negD M.2, m⟩).1 ≠ 0 then ((polTimes o b ⟨negD M.2, m⟩).1, [], []) else
     if (polAdd o [p, (polTimes o b ⟨negD M.2, m⟩).2]).1 ≠ 0 then ((polAdd o [p, (polTimes o b ⟨negD M.2, m⟩).2]).1, [], []) else (0, (polAdd o [p, (polTimes o b ⟨negD M.2, m⟩).2]).2, q ++ [⟨M.2, m⟩]) := by
 subst hp hb hI hM
 exact if_neg hk
theorem cell_grown {w w' : World} {row : Option Nat} {a : Addr} {v : Value} (h : w.cell? a = some v) (hg : w.grownBy w' row) (hne : some a.block ≠ row) : w'.cell? a = some v :=
 (World.cell?_of_block (hg.block _ (World.block_lt_of_cell? w a h) hne)).trans h
theorem OwnT.ne {w : World} {b0 base g : Nat} {u : Value} {q : List TermD} {t : TypeId} {cs : Array Value} (h : OwnT w b0 base u q) (hk : Bk w g t cs) (ht : t ≠ 53) : some g ≠ u.ownBlock := fun e => by
 obtain ⟨_, _, ds, hk2⟩ := h.lt e.symm
 exact Bk.ne_ hk hk2 ht rfl
theorem add_new {b0 : Nat} {o : Int} {p x : List TermD} {Y : Int × List TermD} (hs : shortPs [p, x]) (he : polAdd o [p, x] = Y) {W : World} {A B : Option Addr} {c d : Nat} (hb : b0 ≤ W.heap.size) (hp : RPol W b0 A p) (hx : RPol W b0 B x) (hc : p.length ≤ c) (hd : x.length ≤ d) :
    Calls Tryz.prog 68 #[.int .i64 o, .slice (some ⟨W.heap.size, 0, none⟩) 2 2] (W.alloc (.cells #[.slice A p.length c, .slice B x.length d] 23)).drew fun e w' => ∃ A' c', e = .returned (.tuple #[.slice A' Y.2.length c', .int .i64 Y.1]) ∧ Y.2.length ≤ c' ∧ RPol w' b0 A' Y.2 ∧ Below W.heap.size W w' ∧ Fr W.heap.size A' := by
 subst he
 refine (poly_AddF b0 o (some ⟨W.heap.size, 0, none⟩) 2 [p, x] _ (Nat.le_trans hb (below1 _ _).drew.size) ((rpols_bk2 (p := p) (q := x) (Bk.new_ _ _ _) (hp.up (below1 _ _)) (hx.up (below1 _ _)) hc hd).up (Below.refl _ _).drew) (Nat.le_refl _) hs).mono ?_
 rintro e w' ⟨A', c', h1, h2, h3, h4, h5⟩
 exact ⟨A', c', h1, h2, h3, goes (below1 _ _).drew h4, h5.le (below1 _ _).drew.size⟩
structure Dv (b0 gd : Nat) (o : Int) (L : Option Addr) (cl : Nat) (l : List (List TermD)) (w0 w : World) (A : Option Addr) (c : Nat) (p : List TermD) (V R : Value) (vs : List Value) (r : List TermD) (qs : List (List TermD)) (k : Nat) : Prop where
 below : Below w0.heap.size w0 w
 bb : b0 ≤ w0.heap.size
 bg : w0.heap.size ≤ gd
 kd : Bk w gd 86 #[.int .i64 o, .slice A p.length c, .slice L l.length cl, V, R, .int .i64 k]
 rl : RPols w0 b0 L l
 hcl : l.length ≤ cl
 rp : RPol w b0 A p
 hc : p.length ≤ c
 mat : Mat w b0 w0.heap.size V vs R r qs
 len : qs.length = l.length
 off : p ≠ [] → Off ((R, r) :: vs.zip qs) A ∧ ∀ ad, A = some ad → ad.block ≠ gd ∧ V.ownBlock ≠ some ad.block
section
variable {b0 gd : Nat} {o : Int} {L : Option Addr} {cl : Nat} {l : List (List TermD)} {w0 w w' : World} {A : Option Addr} {c : Nat} {p : List TermD} {V R : Value} {vs : List Value} {r : List TermD} {qs : List (List TermD)} {k : Nat}
theorem Dv.up (h : Dv b0 gd o L cl l w0 w A c p V R vs r qs k) (hb : Below w.heap.size w w') : Dv b0 gd o L cl l w0 w' A c p V R vs r qs k :=
 ⟨goes h.below hb, h.bb, h.bg, h.kd.up hb, h.rl, h.hcl, h.rp.up hb, h.hc, h.mat.up hb, h.len, h.off⟩
theorem Dv.hb0 (h : Dv b0 gd o L cl l w0 w A c p V R vs r qs k) : b0 ≤ w.heap.size := Nat.le_trans h.bb h.below.size
theorem Dv.rok (h : Dv b0 gd o L cl l w0 w A c p V R vs r qs k) : Rok w b0 (some gd) := fun g e => by injection e with e; subst e; exact ⟨Nat.le_trans h.bb h.bg, _, _, h.kd, by decide⟩
theorem Dv.offd (h : Dv b0 gd o L cl l w0 w A c p V R vs r qs k) : p ≠ [] → ∀ ad, A = some ad → (some gd : Option Nat) ≠ some ad.block := fun hn ad e e2 => by
 injection e2 with e2; exact ((h.off hn).2 ad e).1 e2.symm
theorem Dv.matd (h : Dv b0 gd o L cl l w0 w A c p V R vs r qs k) (i : Nat) (v : Value) : Mat (w.setCell ⟨gd, i, none⟩ v) b0 w0.heap.size V vs R r qs :=
 h.mat.far (set_grown w ⟨gd, i, none⟩ v) h.kd (Nat.le_trans h.bb h.bg) (by decide) (by decide) (by decide)
theorem Dv.setk (h : Dv b0 gd o L cl l w0 w A c p V R vs r qs k) (k' : Nat) : Dv b0 gd o L cl l w0 (w.setCell ⟨gd, 5, none⟩ (.int .i64 k')) A c p V R vs r qs k' :=
 ⟨h.below.setCell h.bg _, h.bb, h.bg, h.kd.set_ 5 _, h.rl, h.hcl, h.rp.grown (set_grown w ⟨gd, 5, none⟩ _) h.offd h.rok, h.hc, h.matd _ _, h.len, h.off⟩
theorem Dv.far {g : Nat} {t : TypeId} {cs : Array Value} (h : Dv b0 gd o L cl l w0 w A c p V R vs r qs k) (hg : w.grownBy w' (some g)) (hk : Bk w g t cs) (hb : w0.heap.size ≤ g) (h1 : t ≠ 23) (h2 : t ≠ 53) (h3 : t ≠ 100) (h4 : 86 ≠ t) (hpa : p ≠ [] → ∀ ad, A = some ad → ad.block ≠ g) : Dv b0 gd o L cl l w0 w' A c p V R vs r qs k :=
 ⟨h.below.grown hg h.below.size (fun g' e => by injection e with e; subst e; exact hb), h.bb, h.bg, h.kd.grown hg (fun e => by injection e with e; exact Bk.ne_ h.kd hk h4 e), h.rl, h.hcl, h.rp.grown hg (fun hn ad e e2 => by injection e2 with e2; exact hpa hn ad e e2.symm) (fun g' e => by injection e with e; subst e; exact ⟨Nat.le_trans h.bb hb, t, cs, hk, h3⟩), h.hc, h.mat.far hg hk (Nat.le_trans h.bb hb) h1 h2 h3, h.len, h.off⟩
theorem Dv.setp (h : Dv b0 gd o L cl l w0 w A c p V R vs r qs k) {A' : Option Addr} {c' : Nat} {p' : List TermD} (hr : RPol w b0 A' p') (hc' : p'.length ≤ c') (hf : p' ≠ [] → Off ((R, r) :: vs.zip qs) A' ∧ ∀ ad, A' = some ad → ad.block ≠ gd ∧ V.ownBlock ≠ some ad.block) :
    Dv b0 gd o L cl l w0 (w.setCell ⟨gd, 1, none⟩ (.slice A' p'.length c')) A' c' p' V R vs r qs k :=
 ⟨h.below.setCell h.bg _, h.bb, h.bg, h.kd.set_ 1 _, h.rl, h.hcl, hr.grown (set_grown w ⟨gd, 1, none⟩ _) (fun hn ad e e2 => by injection e2 with e2; exact ((hf hn).2 ad e).1 e2.symm) h.rok, hc', h.matd _ _, h.len, hf⟩
theorem Dv.fresh (h : Dv b0 gd o L cl l w0 w A c p V R vs r qs k) {A' : Option Addr} (hf : Fr w.heap.size A') : Off ((R, r) :: vs.zip qs) A' ∧ ∀ ad, A' = some ad → ad.block ≠ gd ∧ V.ownBlock ≠ some ad.block :=
 ⟨Off.fresh h.mat.fam hf, fun ad e => by
  have h1 := hf ad e
  have h2 := h.kd.lt
  refine ⟨by omega, fun e2 => ?_⟩
  obtain ⟨⟨cs, hk⟩, _⟩ := own_bk h.mat.out e2
  have := hk.lt
  omega⟩
theorem Dv.quot (h : Dv b0 gd o L cl l w0 w A c p V R vs r qs k) {i G n cV : Nat} {v v' : Value} {q us : List TermD} (hV : V = .slice (some ⟨G, 0, none⟩) n cV) (hv : vs[i]? = some v) (hq : qs[i]? = some q) (AP : Apg b0 w0.heap.size w w' v v' q us) :
    Dv b0 gd o L cl l w0 (w'.setCell ⟨G, i, none⟩ v') A c p V R (vs.set i v') r (qs.set i (q ++ us)) k := by
 subst hV
 have ho := h.mat.fam.own (i + 1) (v, q) (h.mat.zip_at hv hq)
 have hrok : Rok w b0 v.ownBlock := ho.rok h.bb
 obtain ⟨m1, m2⟩ := h.mat.inner h.bb hv hq AP.grow AP.own AP.at_
 have hn : n = vs.length := by
  rcases h.mat.out.2 with ⟨e, _⟩ | ⟨g, cap, cur, e, _⟩
  ·cases e
  ·injection e
 have hG := own_bk h.mat.out (gp := G) rfl
 obtain ⟨⟨cs, hkG⟩, hbG⟩ := hG
 obtain ⟨⟨cs', hkG'⟩, _⟩ := own_bk m1 (gp := G) rfl
 have hgd : some gd ≠ v.ownBlock := fun e => by
  obtain ⟨_, _, ds, hk2⟩ := ho.lt e.symm
  exact Bk.ne_ h.kd hk2 (by decide) rfl
 have hkd : Bk w' gd _ _ := h.kd.grown AP.grow hgd
 have hbl : Below w0.heap.size w0 w' := h.below.grown AP.grow h.below.size fun g e => (ho.lt e).2.1
 have hrp : RPol w' b0 A p := h.rp.grown AP.grow (fun hn ad e e2 => (h.off hn).1 (i + 1) (v, q) (h.mat.zip_at hv hq) ad e e2) hrok
 refine ⟨hbl.setCell hbG _, h.bb, h.bg, hkd.far (p := ⟨G, i, none⟩) (fun e => Bk.ne_ hkd hkG' (by decide) e) _, h.rl, h.hcl, hrp.grown (set_grown w' ⟨G, i, none⟩ _) (fun hn ad e e2 => ((h.off hn).2 ad e).2 e2) (fun g e => by injection e with e; subst e; exact ⟨Nat.le_trans h.bb hbG, _, _, hkG', by decide⟩), h.hc, ?_, by rw [List.length_set]; exact h.len, fun hne => ⟨?_, (h.off hne).2⟩⟩
 ·exact Mat.store (by rw [hn]; rw [hn] at m1; exact m1) hn h.mat.len h.bb m2
 ·have := (h.off hne).1.app (i := i + 1) (p := (v, q)) (q := (v', q ++ us)) (h.mat.zip_at hv hq) (h.rp.at0 hne) AP.at_
  rw [List.set_cons_succ, zip_set] at this
  exact this
end
section
variable {P : Program} {ops : Array Oper} {Q : Exit → Act → World → Prop} {md : Region.Mode} {S : World → Prop} {n : Nat}
def wpAnyX (P : Program) (md : Region.Mode) (ops : Array Oper) (Q : Exit → Act → World → Prop) (S : World → Prop) (n : Nat) : Nat → Array Bool → Act → World → Prop
 | 0, listed, a, w => Region.ready md ops listed = [] ∧ Q .normal a w
 | fuel + 1, listed, a, w => (Region.ready md ops listed = [] → Q .normal a w) ∧
   ∀ i ∈ Region.ready md ops listed, wpOp P ops Q i (fun a' w' => (i < n → S w') ∧ wpAnyX P md ops Q S n fuel (listed.setIfInBounds i true) a' w') a w
theorem wpAny_of_X : ∀ (fuel : Nat) (listed : Array Bool) (a : Act) (w : World), wpAnyX P md ops Q S n fuel listed a w → wpAny P md ops Q fuel listed a w
 | 0, _, _, _, h => h
 | fuel + 1, _, _, _, h => ⟨h.1, fun i hi => wpOp_mono (fun a' w' h' => wpAny_of_X fuel _ a' w' h'.2) (h.2 i hi)⟩
theorem wpAnyX_first {i : Nat} {oi : Oper} {v : Value} (hi : ops[i]? = some oi) (hsel : ∀ (j : Nat) (o : Oper) cs b, ops[j]? = some o → o.op ≠ .select cs b)
    (hQ : ∀ c a w, Q (.panic c) (a.put oi.dst v) w → Q (.panic c) a w) (hwait : ∀ j, n ≤ j → j < ops.size → Region.waitsFor md ops j i = true) :
    ∀ (fuel : Nat) (listed : Array Bool) (a : Act) (w : World),
     (∀ j oj, ops[j]? = some oj → j ≠ i → listed.getD j true = false → (∀ e ∈ oj.after, Region.binds md e = true → e.on ≠ i) → oi.apart ops oj = true) →
     i ∈ Region.ready md ops listed → YieldsIf P ops S oi v a → S w →
     wpAnyX P md ops Q S n fuel (listed.setIfInBounds i true) (a.put oi.dst v) w → wpAnyX P md ops Q S n (fuel + 1) listed a w := by
 intro fuel
 induction fuel with
 | zero =>
   intro listed a w _ hr hy hS H
   refine ⟨fun h => (by rw [h] at hr; cases hr), fun j hj => ?_⟩
   by_cases hji : j = i
   ·subst hji; exact hy.wpOp hi hS ⟨fun _ => hS, H⟩
   ·have := ready_mono hj hji
    rw [H.1] at this
    cases this
 | succ fuel ih =>
   intro listed a w hfree hr hy hS H
   refine ⟨fun h => (by rw [h] at hr; cases hr), fun j hj => ?_⟩
   by_cases hji : j = i
   ·subst hji; exact hy.wpOp hi hS ⟨fun _ => hS, H⟩
   ·have h1 := H.2 j (ready_mono hj hji)
    obtain ⟨hjun, oj, hoj, hall⟩ := mem_ready.1 hj
    have hnot : ∀ e ∈ oj.after, Region.binds md e = true → e.on ≠ i := fun e he hb heq => by
     have h1 := hall e he hb
     have h0 := (mem_ready.1 hr).1
     rw [heq] at h1
     rcases Nat.lt_or_ge i listed.size with h' | h'
     ·simp [h'] at h0 h1; rw [h0] at h1; cases h1
     ·simp [Array.getElem?_eq_none h'] at h1
    have hjn : j < n := by
     rcases Nat.lt_or_ge j n with h' | h'
     ·exact h'
     ·obtain ⟨oj', hoj', e, he, hb, hon⟩ := Region.waitsFor_spec (hwait j h' (Array.getElem?_eq_some_iff.1 hoj).1)
      rw [hoj] at hoj'
      injection hoj' with hoj'
      subst hoj'
      exact absurd hon (hnot e he hb)
    have h2 := wpOp_putIf hoj (hfree j oj hoj hji hjun hnot) (fun cs b => hsel i oi cs b hi) (fun cs b => hsel j oj cs b hoj) hQ hy h1
    have hfree' : ∀ k ok, ops[k]? = some ok → k ≠ i → (listed.setIfInBounds j true).getD k true = false →
        (∀ e ∈ ok.after, Region.binds md e = true → e.on ≠ i) → oi.apart ops ok = true := fun k ok hk hki hun hno => by
     refine hfree k ok hk hki ?_ hno
     by_cases hjk : j = k
     ·subst hjk; exact hjun
     ·rw [getD_set_ne true hjk] at hun; exact hun
    refine wpOp_mono (fun a' w' h3 => ⟨h3.2.1, ih (listed.setIfInBounds j true) a' w' hfree' (ready_mono hr (Ne.symm hji)) h3.1 (h3.2.1 hjn) ?_⟩) h2
    rw [Array.setIfInBounds_comm _ _ hji]
    exact h3.2.2
def wpHead (P : Program) (ops : Array Oper) (S : World → Prop) (K : Act → Prop) : List Oper → Act → Prop
 | [], a => K a
 | o :: rest, a => ∃ v, YieldsIf P ops S o v a ∧ wpHead P ops S K rest (a.put o.dst v)
theorem wpHead_nil {K : Act → Prop} {a : Act} (h : K a) : wpHead P ops S K [] a := h
def wpTail (P : Program) (ops : Array Oper) (Q : Exit → Act → World → Prop) (S : World → Prop) (n : Nat) : Nat → List Oper → Act → World → Prop
 | _, [], a, w => Q .normal a w
 | k, o :: rest, a, w => if Region.wanted o (yielded ops a.tmps) = true then o.wp P a w (fun a' w' => (k < n → S w') ∧ wpTail P ops Q S n (k + 1) rest a' w') Q else (k < n → S w) ∧ wpTail P ops Q S n (k + 1) rest (a.put o.dst undef) w
theorem wpTail_nil {k : Nat} {a : Act} {w : World} (h : Q .normal a w) : wpTail P ops Q S n k [] a w := h
theorem wpTail_step {k : Nat} {o : Oper} {rest : List Oper} {a : Act} {w : World}
    (h : ∀ K : Act → World → Prop, (∀ a' w', (k < n → S w') → wpTail P ops Q S n (k + 1) rest a' w' → K a' w') → if Region.wanted o (yielded ops a.tmps) = true then o.wp P a w K Q else K (a.put o.dst undef) w) : wpTail P ops Q S n k (o :: rest) a w :=
 h _ fun _ _ h1 h2 => ⟨h1, h2⟩
theorem wpAnyX_seq : ∀ (l : List Oper) (k : Nat) (listed : Array Bool) (a : Act) (w : World), (∀ j, l[j]? = ops[k + j]?) → Region.seqB md ops l.length k listed = true → wpTail P ops Q S n k l a w → wpAnyX P md ops Q S n l.length listed a w
 | [], _, _, _, _, _, hB, h => ⟨by simpa [Region.seqB] using hB, h⟩
 | o :: l, k, listed, a, w, hl, hB, h => by
   have h0 : ops[k]? = some o := by simpa using (hl 0).symm
   simp only [List.length_cons, Region.seqB, Bool.and_eq_true, decide_eq_true_eq] at hB
   refine ⟨fun h1 => (by rw [hB.1] at h1; cases h1), fun i hi => ?_⟩
   rw [hB.1] at hi
   have hik : i = k := by simpa using hi
   subst hik
   have hw : wpOp P ops Q i (fun a' w' => (i < n → S w') ∧ wpTail P ops Q S n (i + 1) l a' w') a w := by
    have h' : (if Region.wanted o (yielded ops a.tmps) = true then o.wp P a w (fun a' w' => (i < n → S w') ∧ wpTail P ops Q S n (i + 1) l a' w') Q else (i < n → S w) ∧ wpTail P ops Q S n (i + 1) l (a.put o.dst undef) w) := h
    unfold wpOp
    simp only [h0]
    split
    ·rename_i hw; rw [if_pos hw] at h'; exact .inl h'
    ·rename_i hw; rw [if_neg hw] at h'; exact h'
   exact wpOp_mono (fun a' w' h' => ⟨h'.1, wpAnyX_seq l (i + 1) _ a' w' (fun j => by have := hl (j + 1); simpa [Nat.add_assoc, Nat.add_comm 1 j] using this) hB.2 h'.2⟩) hw
theorem wpAnyX_head {tail : List Oper} (hs : Region.noSelect ops = true) (hQ : ∀ c a d v w, Q (.panic c) (a.put d v) w → Q (.panic c) a w) (m : Nat) (hwait : ∀ i, i < m → ∀ j, n ≤ j → j < ops.size → Region.waitsFor md ops j i = true) (htl : ∀ j, tail[j]? = ops[m + j]?) :
    ∀ (l : List Oper) (k : Nat) (listed : Array Bool) (a : Act) (w : World), k + l.length = m → (∀ j, j < l.length → l[j]? = ops[k + j]?) → S w → Region.lexHead md ops tail.length l.length k listed = true →
     wpHead P ops S (fun a' => wpTail P ops Q S n m tail a' w) l a → wpAnyX P md ops Q S n (tail.length + l.length) listed a w
 | [], k, listed, a, w, hk, _, _, hB, h => by
   have : k = m := by simpa using hk
   subst this
   exact wpAnyX_seq tail k listed a w htl (by simpa [Region.lexHead] using hB) h
 | o :: l, k, listed, a, w, hk, hl, hS, hB, h => by
   have h0 : ops[k]? = some o := by simpa using (hl 0 (by simp)).symm
   simp only [List.length_cons, Region.lexHead, Bool.and_eq_true] at hB
   obtain ⟨⟨hr, hf⟩, hB'⟩ := hB
   obtain ⟨v, hy, hK⟩ := h
   have hkm : k < m := by simp only [List.length_cons] at hk; omega
   refine wpAnyX_first h0 (Region.noSelect_spec hs) (fun c a w h => hQ c a _ _ w h) (hwait k hkm) (tail.length + l.length) listed a w (Region.free_spec h0 hf) (by simpa using hr) hy hS ?_
   exact wpAnyX_head hs hQ m hwait htl l (k + 1) _ _ w (by simp only [List.length_cons] at hk; omega) (fun j hj => by have := hl (j + 1) (by simp; omega); simpa [Nat.add_assoc, Nat.add_comm 1 j] using this) hS hB' hK
def headB (ops : Array Oper) (m n : Nat) : Bool :=
 Region.noSelect ops && decide (m ≤ ops.size) && ((List.range m).all fun i => (List.range ops.size).all fun j => decide (j < n) || Region.waitsFor .any ops j i) && Region.lexHead .any ops (ops.size - m) m 0 (Array.replicate ops.size false)
theorem wp_region_head {id : Nat} {a : Act} {w : World} {l : List Oper} (m n : Nat) (S : World → Prop) (hm : P.follows .mixedOrders = true) (hB : headB l.toArray m n = true) (hQ : ∀ c a d v w, Q (.panic c) (a.put d v) w → Q (.panic c) a w) (hS : S w.drew)
    (h : wpHead P l.toArray S (fun a' => wpTail P l.toArray Q S n m (l.drop m) a' w.drew) (l.take m) a) : (Code.region id l.toArray true).wp P Q a w := by
 unfold headB at hB
 simp only [Bool.and_eq_true, decide_eq_true_eq] at hB
 obtain ⟨⟨⟨hsel, hms⟩, hwt⟩, hlex⟩ := hB
 have hms' : m ≤ l.length := by simpa using hms
 have htk : (l.take m).length = m := by rw [List.length_take]; omega
 have hdr : (l.drop m).length = l.toArray.size - m := by simp
 refine wp_region_any hm (wpAny_of_X (S := S) (n := n) _ _ _ _ ?_)
 have hwait : ∀ i, i < m → ∀ j, n ≤ j → j < l.toArray.size → Region.waitsFor .any l.toArray j i = true := fun i hi j hj hjs => by
  have h1 := List.all_eq_true.1 (List.all_eq_true.1 hwt i (List.mem_range.2 hi)) j (List.mem_range.2 hjs)
  simp only [Bool.or_eq_true, decide_eq_true_eq] at h1
  exact h1.resolve_left (by omega)
 have := wpAnyX_head (P := P) (Q := Q) (md := .any) (S := S) (n := n) (tail := l.drop m) hsel hQ m hwait (fun j => by simp [List.getElem?_drop]) (l.take m) 0 (Array.replicate l.toArray.size false) a w.drew (by rw [htk, Nat.zero_add])
  (fun j hj => by rw [htk] at hj; simp [hj]) hS (by rw [hdr, htk]; exact hlex) h
 rw [hdr, htk, show l.toArray.size - m + m = l.toArray.size by omega] at this
 exact this
end
end Go.Proofs.YtjanagclahkfdaaGreat
