/- Parts of the proof, joined: each theorem says what it shows. -/
import Derived.Test.YtgjkgkgieeoalaaGreatF01
import Derived.Test.YtgjkgkgieeoalaaGreatF26
import Derived.Test.YtgjkgkgieeoalaaGreatF19
import Derived.Test.YtgjkgkgieeoalaaGreatF28
set_option linter.unusedVariables false
set_option linter.unusedSimpArgs false
set_option maxHeartbeats 24000000
set_option maxRecDepth 100000
namespace Go.Proofs.YtgjkgkgieeoalaaGreat
open Go.RowKit
theorem Tryz.slPolys : Tryz.prog.underlying 27 = some (.slice 25) := by kernel_rfl
theorem Tryz.infPoly : (Tryz.prog.info? 25).map (fun i => (i.zero, i.size, i.bytes)) = some (some (.slice none 0 0), 1, 24) := by kernel_rfl
theorem made_nils (n : Nat) : (madeCells (Value.slice none 0 0).cells (n * 1)).toList = List.replicate n (.slice none 0 0) := by
 apply List.ext_getElem?
 intro j
 unfold madeCells
 simp only [Array.toList_map, List.getElem?_map, Array.toList_range, Nat.mul_one, List.getElem?_replicate]
 by_cases hj : j < n
 ·rw [List.getElem?_range hj, if_pos hj]
  simp [Value.cells, Nat.mod_one]
 ·rw [List.getElem?_eq_none (by simp; omega), if_neg hj]; rfl
theorem Mat.start {w : World} {b0 base n : Nat} {V : Value} (h : w.ownsRow base 25 1 V n (List.replicate n (.slice none 0 0))) : Mat w b0 base V (List.replicate n (.slice none 0 0)) (.slice none 0 0) [] (List.replicate n []) := by
 refine ⟨by rw [List.length_replicate]; exact h, by simp, ⟨fun i p hp => ?_, fun i j p q _ hp hq g hg => ?_⟩⟩
 ·have : p = (.slice none 0 0, []) := by
    rw [List.zip_replicate', ← List.replicate_succ] at hp
    rw [List.getElem?_replicate] at hp
    split at hp
    ·injection hp with hp; exact hp.symm
    ·cases hp
  subst this
  exact OwnT.nil _ _ _
 ·have : p = (.slice none 0 0, []) := by
    rw [List.zip_replicate', ← List.replicate_succ] at hp
    rw [List.getElem?_replicate] at hp
    split at hp
    ·injection hp with hp; exact hp.symm
    ·cases hp
  subst this
  simp [Value.ownBlock] at hg
def needF (k : Nat) (r : List TermD) : Nat := (400 - k) * 61 + (60 - r.length) + 1
theorem splitD_bad1 {o : Int} {p : List TermD} {l : List (List TermD)} (h : (polMay o p && decide (l.length ≤ 24) && l.all (polMay o)) = false) : splitD o p l = (1, [], []) := if_pos h
def SplitPostF (b0 : Nat) (w : World) (D : Int × List (List TermD) × List TermD) (e : Ending) (w' : World) : Prop :=
 ∃ Q qc R rc, e = .returned (.tuple #[.slice Q D.2.1.length qc, .slice R D.2.2.length rc, .int .i64 D.1]) ∧ D.2.1.length ≤ qc ∧ D.2.2.length ≤ rc ∧ RPols w' b0 Q D.2.1 ∧ RPol w' b0 R D.2.2 ∧ Below w.heap.size w w' ∧ Fr w.heap.size R
theorem SplitPostF.bad {b0 : Nat} {w w' : World} {D : Int × List (List TermD) × List TermD} {E : Int} (h : D = (E, [], [])) (hb : Below w.heap.size w w') : SplitPostF b0 w D (.returned (.tuple #[.slice none 0 0, .slice none 0 0, .int .i64 E])) w' := by
 subst h
 exact ⟨none, 0, none, 0, rfl, ae _, ae _, RPols.nil _ _ _, RPol.nil _ _ _, hb, Fr.none _⟩
theorem splitF_move {o : Int} {l qs : List (List TermD)} {n k i : Nat} {t : TermD} {p r b q : List TermD} {m : MonD} {E : Int × (List TermD × List TermD)} (h : dividesD l t.m = some (i, m)) (hi : l[i]? = some b) (hq : qs[i]? = some q) (hE : moveD o (t :: p) b q k m = E) :
    splitF o l (n + 1) (t :: p) qs r k = if E.1 ≠ 0 then (E.1, [], []) else splitF o l n E.2.1 (qs.set i E.2.2) r (k + 1) := by
 have e1 : l.getD i [] = b := by rw [List.getD_eq_getElem?_getD, hi]; rfl
 have e2 : qs.getD i [] = q := by rw [List.getD_eq_getElem?_getD, hq]; rfl
 conv => lhs; unfold splitF
 rw [h]
 simp only [e1, e2, hE]
theorem splitF_rest {o : Int} {l qs : List (List TermD)} {n k : Nat} {t : TermD} {p r : List TermD} (h : dividesD l t.m = none) :
    splitF o l (n + 1) (t :: p) qs r k = if 60 ≤ r.length then (90, [], []) else splitF o l n p qs (r ++ [t]) k := by
 conv => lhs; unfold splitF
 rw [h]
theorem moveD_len {o : Int} {p b q : List TermD} {k : Nat} {m : MonD} (h : (moveD o p b q k m).1 = 0) : (moveD o p b q k m).2.2.length ≤ 60 := by
 unfold moveD at h ⊢
 split
 ·rename_i t p' u b'
  split
  ·simp
  ·split
   ·simp
   ·split
    ·simp
    ·split
     ·simp
     ·split
      ·simp
      ·rename_i h60 _ _
       simp only [List.length_append, List.length_cons, List.length_nil]
       omega
 ·simp
def shiftD (i : Nat) (x : Option (Nat × MonD)) : Option (Nat × MonD) := x.map fun y => (y.1 + i, y.2)
theorem dividesD_skip {l : List (List TermD)} {i : Nat} {b : List TermD} {m : MonD} (hi : l[i]? = some b) (hb : ∀ u b', b = u :: b' → (monDiv m u.m).1 = false) : shiftD i (dividesD (l.drop i) m) = shiftD (i + 1) (dividesD (l.drop (i + 1)) m) := by
 have hlt := (List.getElem?_eq_some_iff.1 hi).1
 have e : l.drop i = b :: l.drop (i + 1) := by
  rw [List.drop_eq_getElem_cons hlt]
  congr 1
  rw [ai hlt] at hi
  injection hi
 rw [e]
 have key : dividesD (b :: l.drop (i + 1)) m = (dividesD (l.drop (i + 1)) m).map fun x => (x.1 + 1, x.2) := by
  cases b with
  | nil => rfl
  | cons u b' =>
    conv => lhs; unfold dividesD
    rw [hb u b' rfl]
    simp
 rw [key]
 unfold shiftD
 cases dividesD (l.drop (i + 1)) m with
 | none => rfl
 | some x => simp [Nat.add_assoc, Nat.add_comm 1 i]
theorem dividesD_hit {l : List (List TermD)} {i : Nat} {u : TermD} {b' : List TermD} {m : MonD} (hi : l[i]? = some (u :: b')) (hb : (monDiv m u.m).1 = true) : shiftD i (dividesD (l.drop i) m) = some (i, (monDiv m u.m).2) := by
 have hlt := (List.getElem?_eq_some_iff.1 hi).1
 have e : l.drop i = (u :: b') :: l.drop (i + 1) := by
  rw [List.drop_eq_getElem_cons hlt]
  congr 1
  rw [ai hlt] at hi
  injection hi
 rw [e]
 unfold dividesD
 rw [if_pos hb]
 simp [shiftD]
theorem dividesD_end {l : List (List TermD)} {m : MonD} : shiftD l.length (dividesD (l.drop l.length) m) = none := by
 rw [List.drop_length]; rfl
theorem dividesD_start {l : List (List TermD)} {m : MonD} : dividesD l m = shiftD 0 (dividesD (l.drop 0) m) := by
 unfold shiftD
 cases h : dividesD l m <;> simp [h]
theorem div_SplitF (b0 : Nat) (o : Int) (A L : Option Addr) (c cl : Nat) (p : List TermD) (l : List (List TermD)) (w : World) (hb0 : b0 ≤ w.heap.size) (h : RPol w b0 A p) (hc : p.length ≤ c) (hs : shortP p) (hL : RPols w b0 L l) (hcl : l.length ≤ cl) (hsl : shortPs l) :
    Calls Tryz.prog 189 #[.int .i64 o, .slice A p.length c, .slice L l.length cl] w (SplitPostF b0 w (splitD o p l)) := by
 obtain ⟨D, hD⟩ : ∃ D, splitD o p l = D := ⟨_, rfl⟩
 rw [hD]
 have HD := aa hD
 have HP := aa h
 have HL := aa hL
 have HS := aa (af hs hsl)
 have HB0 := aa hb0
 have hl := hsl.1
 clear hD h hL hs hsl hb0
 go_enter Tryz.func189, Tryz.ntmps189
 go_upto_region 1 with (fail)
 refine wp_gen (fun W => Bo1 w.heap.size w.heap.size w W 3 #[.int .i64 o]) (Bo1.mk1 w _ _) ?_
 intro W BX
 go_step3
 have C1 := aa (Split_1 BX.out.k1 (HP.out.up BX.out.below) hc HS.out.1)
 cases hm : polMay o p
 ·rw [hm] at C1
  have HF : Hd (D = (1, [], [])) := ⟨by rw [← HD.out]; exact splitD_bad1 (by rw [hm]; rfl)⟩
  clear hm
  go_wp2_with fail
  refine C1.out.mono ?_
  rintro e w2 ⟨rfl, hb⟩
  have BX2 := aa (BX.out.up hb)
  clear hb
  go_wp2_with fail
  go_ret3
  exact SplitPostF.bad HF.out BX2.out.below
 rw [hm] at C1
 by_cases h24 : 24 < l.length
 ·have HF : Hd (D = (1, [], [])) := ⟨by rw [← HD.out]; exact splitD_bad1 (by rw [hm, decide_eq_false (by omega)]; rfl)⟩
  have e1 : (24 : Int) < l.length := by omega
  clear hm h24
  go_wp2_with fail
  refine C1.out.mono ?_
  rintro e w2 ⟨rfl, hb⟩
  have BX2 := aa (BX.out.up hb)
  clear hb
  go_wp2_with fail
  go_ret3
  exact SplitPostF.bad HF.out BX2.out.below
 have e1 : ¬ (24 : Int) < l.length := by omega
 have C2 := aa (fun W2 (hB : Below W.heap.size W W2) => contains_bad b0 w.heap.size o L cl l W2 (BX.out.k1.up hB) (HL.out.up (goes BX.out.below hB)) hcl HS.out.2)
 cases hbd : l.all (polMay o)
 ·have HF : Hd (D = (1, [], [])) := ⟨by rw [← HD.out]; exact splitD_bad1 (by rw [hm, hbd]; simp)⟩
  have ha : anyBad o l = true := by
   unfold anyBad
   rw [List.all_eq_false] at hbd
   obtain ⟨x, hx, h2⟩ := hbd
   exact List.any_eq_true.2 ⟨x, hx, by simpa using h2⟩
  rw [ha] at C2
  clear hm hbd ha
  go_wp2_with fail
  refine C1.out.mono ?_
  rintro e w2 ⟨rfl, hb⟩
  have BX2 := aa (BX.out.up hb)
  have HB2 := aa hb
  clear hb
  go_wp2_with fail
  refine (C2.out _ HB2.out).mono ?_
  rintro e w3 ⟨rfl, hb⟩
  have BX3 := aa (BX2.out.up hb)
  clear hb
  go_wp2_with fail
  go_ret3
  exact SplitPostF.bad HF.out BX3.out.below
 have HF : Hd (splitF o l (400 * 61 + 61) p (List.replicate l.length []) [] 0 = D) := ⟨by rw [← HD.out]; unfold splitD; rw [hm, hbd, decide_eq_true (by omega), if_neg (by simp)]⟩
 have HMay := aa (af hm hbd)
 have ha : anyBad o l = false := by
  unfold anyBad
  rw [List.any_eq_false]
  intro x hx
  rw [List.all_eq_true] at hbd
  rw [hbd x hx]; simp
 rw [ha] at C2
 clear hm hbd ha
 go_wp2_with fail
 refine C1.out.mono ?_
 rintro e w2 ⟨rfl, hb⟩
 have BX2 := aa (BX.out.up hb)
 have HB2 := aa hb
 clear hb
 go_wp2_with fail
 refine (C2.out _ HB2.out).mono ?_
 rintro e w3 ⟨rfl, hb⟩
 have BX3 := aa (BX2.out.up hb)
 clear hb C1 C2 BX BX2 HB2
 obtain ⟨i0, hi0, hz0, hz1, hz2⟩ := info_split Tryz.infPoly
 obtain ⟨w4, hmk, hown, hgr⟩ := run_make_full (P := Tryz.prog) w3.drew w.heap.size 27 25 i0 _ 1 Tryz.slPolys hi0 hz0 hz1 .i64 .i64 l.length (by rw [hz2]; omega) (by unfold maxLen; omega) BX3.out.below.size
 rw [made_nils] at hown
 obtain ⟨G, hG⟩ : ∃ G, w3.drew.heap.size = G := ⟨_, rfl⟩
 have HG : Hd (w.heap.size ≤ G) := ⟨by rw [← hG]; exact BX3.out.below.size⟩
 rw [hG] at hmk hown
 clear hG
 have HB4 : Hd (Below w3.heap.size w3 w4) := ⟨(ag w3.heap.size w3).drew.trans ⟨hgr.os, hgr.tape, hgr.output, hgr.size, fun k hk => hgr.block k hk (by simp)⟩⟩
 have HO4 := aa hown
 have q0 := BX3.out.k1.one
 have q0d : w3.drew.cell? ⟨w.heap.size, 0, none⟩ = some (.int .i64 o) := q0
 have q4 := cell_up q0 HB4.out
 clear hi0 hz0 hz1 hz2 hown hgr
 go_wp2_with fail
 refine wp_region_head 5 8 (fun W => W.cell? ⟨w.heap.size, 0, none⟩ = some (.int .i64 o)) (by kernel_rfl) (by kernel_rfl) (fun c a d v w h => by cases d <;> exact h) q0d ?_
 clear q0 q0d
 simp only [List.take_succ_cons, List.take_zero, List.drop_succ_cons, List.drop_zero]
 iterate 5 (refine ⟨?_, Or.inl ⟨by rfl, ?_⟩, ?_⟩; rotate_left; (intro W hW; go_simp; try with_reducible rfl); simp only [Act.put, List.setIfInBounds_toArray, List.set_cons_zero, List.set_cons_succ])
 refine wpHead_nil ?_
 change wpTail _ _ _ _ _ _ _ _ _
 refine wpTail_step (fun K hK => ?_)
 go_simp
 refine hK _ _ (fun _ => q4) ?_
 clear hK K hmk
 refine wpTail_step (fun K hK => ?_)
 go_simp
 refine hK _ _ (fun _ => q4) ?_
 clear hK K
 refine wpTail_step (fun K hK => ?_)
 go_simp
 refine hK _ _ (fun _ => cell_up q4 (below1 _ _)) ?_
 clear hK K
 refine wpTail_step (fun K hK => ?_)
 go_simp
 refine hK _ _ (fun h => absurd h (by decide)) ?_
 clear hK K q4
 refine wpTail_nil ?_
 have hmat := Mat.start (b0 := b0) HO4.out
 have hb4 : Below w.heap.size w w4 := goes BX3.out.below HB4.out
 have D0 : Hd (Dv b0 w4.heap.size o L cl l w (w4.alloc (Obj.cells #[.int .i64 o, .slice A p.length c, .slice L l.length cl, .slice (some ⟨G, 0, none⟩) l.length l.length, .slice none 0 0, .int .i64 0] 267)) A c p (.slice (some ⟨G, 0, none⟩) l.length l.length) (.slice none 0 0) (List.replicate l.length (.slice none 0 0)) [] (List.replicate l.length []) 0) :=
  ⟨⟨goes hb4 (below1 _ _), HB0.out, hb4.size, Bk.new_ _ _ _, HL.out, hcl, HP.out.up (goes hb4 (below1 _ _)), hc, hmat.up (below1 _ _), by simp, fun hn => ⟨Off.old hmat.fam (HP.out.at0 hn), fun ad e => by
   have h1 := HP.out.at0 hn ad e
   have h2 := hb4.size
   have h3 := HG.out
   refine ⟨by omega, fun e2 => ?_⟩
   simp only [Value.ownBlock, Option.some.injEq] at e2
   omega⟩⟩⟩
 generalize w4.alloc (Obj.cells #[.int .i64 o, .slice A p.length c, .slice L l.length cl, .slice (some ⟨G, 0, none⟩) l.length l.length, .slice none 0 0, .int .i64 0] 267) = w5 at D0 ⊢
 generalize w4.heap.size = gd at D0 ⊢
 clear hmat hb4 HO4 HB4 BX3 HP
 go_wp2_with fail
 go_step3
 go_wp2_with fail
 go_loopg [11] (400 * 61 + 61) (fun g _ wr => ∃ (A : Option Addr) (c : Nat) (p : List TermD) (vs : List Value) (R : Value) (r : List TermD) (qs : List (List TermD)) (k : Nat), Hd (Dv b0 gd o L cl l w wr A c p (.slice (some ⟨G, 0, none⟩) l.length l.length) R vs r qs k) ∧
  Hd (k ≤ 400) ∧ Hd (r.length ≤ 60) ∧ Hd (shortP p) ∧ Hd (∀ q ∈ qs, q.length ≤ 60 ∧ shorts q) ∧ Hd (needF k r ≤ g) ∧ Hd (splitF o l g p qs r k = D))
 case atStart => exact ⟨A, c, p, _, _, [], _, 0, D0, ⟨by omega⟩, ⟨by simp⟩, ⟨HS.out.1⟩, ⟨fun q hq => by rw [(List.mem_replicate.1 hq).2]; exact ⟨by simp, fun s h => by cases h⟩⟩, ⟨ae _⟩, HF⟩
 case round =>
  clear D0 HF e1
  obtain ⟨A, c, p, vs, R, r, qs, k, DD, hk, hr, hsp, hq, hg, HF⟩ := hrel
  obtain ⟨n, rfl⟩ : ∃ n, gk = n + 1 := ⟨gk - 1, by have := hg.out; unfold needF at this; omega⟩
  have hR0 := (DD.out.mat.fam.own 0 (R, r) rfl).reads
  dsimp only at hR0
  obtain ⟨RA, rc, rfl, hrc, -, -⟩ := hR0
  obtain ⟨d0, d1, d2, d3, d4, d5⟩ := DD.out.kd.six'
  by_cases hp0 : p.length = 0
  ·have h0 : ¬ (0 : Int) < p.length := by omega
   have HP0 := aa hp0
   clear hp0
   go_wp2_with fail
   go_quiet (fail)
   go_wp2_with fail
   go_ret3
   have hp1 := List.eq_nil_of_length_eq_zero HP0.out
   subst hp1
   have e : D = (0, qs, r) := by rw [← HF.out]; rfl
   rw [e]
   obtain ⟨Q, qc, hQ, hqc, hQr⟩ := DD.out.mat.reads
   rw [hQ]
   have hRr := (DD.out.mat.fam.own 0 (.slice RA r.length rc, r) rfl).reads
   obtain ⟨A9, c9, h9, h9c, -, h9r⟩ := hRr
   dsimp only at h9
   rw [h9]
   have hfr := (DD.out.mat.fam.own 0 (.slice RA r.length rc, r) rfl).fr (ae _)
   injection h9 with h9a
   rw [h9a] at hfr
   exact ⟨Q, qc, A9, c9, rfl, hqc, h9c, hQr.up (Below.dn (ag _ _) _), h9r.up (Below.dn (ag _ _) _), Below.dn DD.out.below _, hfr⟩
  ·have h0 : (0 : Int) < p.length := by omega
   have hl0 : 0 < p.length := by omega
   clear hp0
   obtain ⟨t, p', hp⟩ : ∃ t p', p = t :: p' := by
    cases p with
    | nil => simp at hl0
    | cons t p' => exact ⟨t, p', rfl⟩
   have HP := aa hp
   clear hp
   obtain ⟨pa, T1, tc1, T2, tc2, t', hA, hab, hti, hrt, q0, q1, q2, q3, q4, q5, q6⟩ := DD.out.rp.get hl0
   subst hA
   have ht' : t' = t := by have := hti.out; rw [HP.out] at this; injection this with this; exact this.symm
   subst ht'
   have ea : pa.add (0 * 7) = pa := by unfold Addr.add; simp
   rw [ea] at q0 q1 q2 q3 q4 q5 q6
   clear ea hti
   go_upto_region 7 with (fail)
   refine wp_gen (fun W => Dv b0 gd o L cl l w W (some pa) c p (.slice (some ⟨G, 0, none⟩) l.length l.length) (.slice RA r.length rc) vs r qs k ∧ Bk W wr.heap.size 68 #[.bool t'.c.neg, .slice T1 t'.c.num.length tc1, .slice T2 t'.c.den.length tc2, .int .i64 t'.m.x0, .int .i64 t'.m.x1, .int .i64 t'.m.x2, .int .i64 t'.m.x3] ∧ RTerm W b0 (.agg #[.bool t'.c.neg, .slice T1 t'.c.num.length tc1, .slice T2 t'.c.den.length tc2, .int .i64 t'.m.x0, .int .i64 t'.m.x1, .int .i64 t'.m.x2, .int .i64 t'.m.x3]) t') ⟨DD.out.up (below1 _ _), Bk.new_ _ _ _, hrt.out.up (below1 _ _)⟩ ?_
   intro W1 hW1
   have hg9 : w.heap.size ≤ wr.heap.size := DD.out.below.size
   have hpg : pa.block ≠ wr.heap.size := Nat.ne_of_lt hab
   have hrg : some wr.heap.size ≠ (Value.slice RA r.length rc).ownBlock := fun e => by
    have h1 := (DD.out.mat.fam.own 0 (_, r) rfl).lt e.symm
    obtain ⟨h1, _⟩ := h1
    omega
   clear DD d0 d1 d2 d3 d4 d5 q0 q1 q2 q3 q4 q5 q6 hab hrt
   generalize wr.heap.size = gb at hW1 hg9 hpg hrg ⊢
   have D1 := aa hW1.out.1
   have K1 := aa hW1.out.2.1
   have TT1 := aa hW1.out.2.2
   have HGB := aa (af hg9 (af hpg hrg))
   clear hW1 hg9 hpg hrg
   go_wp2_with fail
   go_loopw [53] (fun v53 wx => ∃ i : Nat, v53 = .int .i64 i ∧ i ≤ l.length ∧ Hd (Dv b0 gd o L cl l w wx (some pa) c p (.slice (some ⟨G, 0, none⟩) l.length l.length) (.slice RA r.length rc) vs r qs k) ∧ Hd (Bk wx gb 68 #[.bool t'.c.neg, .slice T1 t'.c.num.length tc1, .slice T2 t'.c.den.length tc2, .int .i64 t'.m.x0, .int .i64 t'.m.x1, .int .i64 t'.m.x2, .int .i64 t'.m.x3]) ∧
    Hd (RTerm wx b0 (.agg #[.bool t'.c.neg, .slice T1 t'.c.num.length tc1, .slice T2 t'.c.den.length tc2, .int .i64 t'.m.x0, .int .i64 t'.m.x1, .int .i64 t'.m.x2, .int .i64 t'.m.x3]) t') ∧ Hd (dividesD l t'.m = shiftD i (dividesD (l.drop i) t'.m))) (fun v _ => l.length - (intOf v).toNat)
   case atStart => exact ⟨0, rfl, by omega, D1, K1, TT1, ⟨dividesD_start⟩⟩
   case round =>
    clear D1 K1 TT1
    obtain ⟨i, rfl, hi, D2, K2, TT2, HDV⟩ := hrel
    by_cases hil : i < l.length
    ·have hil' : (i : Int) < l.length := by omega
     obtain ⟨la, a, pc, b, rfl, hab, hti, hcell, hpc, hrb⟩ := (D2.out.rl.up D2.out.below).get hil
     by_cases hb0 : b.length = 0
     ·have hb0' : ((b.length : Int) == 0) = true := by rw [hb0]; rfl
      have HN : Hd (dividesD l t'.m = shiftD (i + 1) (dividesD (l.drop (i + 1)) t'.m)) := ⟨HDV.out.trans (dividesD_skip hti.out (fun u b' e => by rw [e] at hb0; simp at hb0))⟩
      clear HDV hb0
      go_wp2_with fail
      go_roundw
      case measure => first | (simp [intOf]; done) | (simp [intOf]; omega)
      case rel => exact ⟨i + 1, by go_num, by omega, D2, K2, TT2, HN⟩
     have hb0' : ((b.length : Int) == 0) = false := by rw [beq_eq_false_iff_ne]; omega
     have hb1 : (0 : Int) < b.length := by omega
     go_upto_region 11 with (fail)
     have hb2 : 0 < b.length := by omega
     obtain ⟨ba, B1, e1, B2, e2, u, rfl, hbb, hui, -, -, -, -, q3, q4, q5, q6⟩ := hrb.out.get hb2
     have ea : ba.add (0 * 7) = ba := by unfold Addr.add; simp
     rw [ea] at q3 q4 q5 q6
     obtain ⟨b', hbu⟩ : ∃ b', b = u :: b' := by
      have h2 := hui.out
      cases b with
      | nil => simp at hb2
      | cons x b' => simp at h2; exact ⟨b', by rw [h2]⟩
     have HBU := aa hbu
     have HTI := aa (show l[i]? = some (u :: b') by rw [← hbu]; exact hti.out)
     have CD := aa (mono_Div t'.m u.m)
     obtain ⟨mb, mm, hM⟩ : ∃ mb mm, monDiv t'.m u.m = (mb, mm) := ⟨_, _, rfl⟩
     rw [hM] at CD
     dsimp only at CD
     have HM := aa hM
     obtain ⟨-, k3, k4, k5, k6⟩ := K2.out.seven
     have SO := aa (fun W (hB : Below wr.heap.size wr W) => af (aa hB) (af (cell_up k3 hB) (af (cell_up k4 hB) (af (cell_up k5 hB) (af (cell_up k6 hB) (af (cell_up q3 hB) (af (cell_up q4 hB) (af (cell_up q5 hB) (cell_up q6 hB)))))))))
     clear ea hui hM hcell hrb hbb hab hbu hti
     go_cut [14, 15] (fun v14 v15 wx => ∃ gm : Nat, v14 = .pointer (some ⟨gm, 0, none⟩) ∧ v15 = .bool mb ∧ Hd (Below wr.heap.size wr wx) ∧ Hd (Bk wx gm 66 #[.int .i64 mm.x0, .int .i64 mm.x1, .int .i64 mm.x2, .int .i64 mm.x3]))
     case first =>
      go_region_held3 (fun W => Hd (Below wr.heap.size wr W) ∧ W.cell? ⟨gb, 3, none⟩ = some (.int .i64 t'.m.x0) ∧ W.cell? ⟨gb, 4, none⟩ = some (.int .i64 t'.m.x1) ∧ W.cell? ⟨gb, 5, none⟩ = some (.int .i64 t'.m.x2) ∧ W.cell? ⟨gb, 6, none⟩ = some (.int .i64 t'.m.x3) ∧
          W.cell? ⟨ba.block, ba.off + 3, none⟩ = some (.int .i64 u.m.x0) ∧ W.cell? ⟨ba.block, ba.off + 3 + 1, none⟩ = some (.int .i64 u.m.x1) ∧ W.cell? ⟨ba.block, ba.off + 3 + 2, none⟩ = some (.int .i64 u.m.x2) ∧ W.cell? ⟨ba.block, ba.off + 3 + 3, none⟩ = some (.int .i64 u.m.x3))
       (first
        | with_reducible exact SO.out _ (.refl _ _)
        | with_reducible exact SO.out _ (ag _ _).drew
        | with_reducible exact SO.out _ ((ag _ _).drew.alloc (ae _) _)
        | with_reducible exact SO.out _ ((ag _ _).alloc (ae _) _).drew
        | with_reducible exact SO.out _ hB5
        | with_reducible exact SO.out _ (hB5.alloc hB5.size _)
        | with_reducible exact SO.out _ (below_set4 hB5 (ae _) _ _ _ _)
        | with_reducible exact SO.out _ (below_set4 (hB5.alloc hB5.size _) hB5.size _ _ _ _)
        | fail)
       (first
        | (go_at_call 94; have hB := ‹Hd (Below wr.heap.size wr _) ∧ _›.1; with_reducible refine (CD.out ((wr.alloc (Obj.cells #[.int .i64 0, .int .i64 0, .int .i64 0, .int .i64 0] 66)).drew)).mono ?_; rintro e w5 ⟨rfl, hb⟩
           have hB5 := hB.out.trans (hb.lo.mono hB.out.size)
           have hk := aa ((Bk.new_ wr 66 #[.int .i64 0, .int .i64 0, .int .i64 0, .int .i64 0]).d1.up hb.lo)
           obtain ⟨p6, p7, p8, p9⟩ := hk.out.four
           have fz := fun i => hk.out.froz i)
        | (go_at_call 94; have hB := ‹Hd (Below wr.heap.size wr _) ∧ _›.1; with_reducible refine (CD.out _).mono ?_; rintro e w5 ⟨rfl, hb⟩
           have hB5 := hB.out.trans (hb.lo.mono hB.out.size)))
      all_goals
       have hB9 := ‹Hd (Below wr.heap.size wr _) ∧ _›.1
       go_wp2_with fail
       go_meet
       first
        | with_reducible exact ⟨_, rfl, rfl, hB9, ⟨Bk.new_ _ _ _⟩⟩
        | with_reducible exact ⟨_, rfl, rfl, hB9, ⟨hk.out.set4 _ _ _ _⟩⟩
        | fail
     case rest =>
      clear CD SO k3 k4 k5 k6 q3 q4 q5 q6
      obtain ⟨gm, rfl, rfl, HB3, KM⟩ := hcut
      have D3 := aa (D2.out.up HB3.out)
      have K3 := aa (K2.out.up HB3.out)
      have TT3 := aa (TT2.out.up HB3.out)
      clear D2 K2 TT2
      cases mb
      ·have HN : Hd (dividesD l t'.m = shiftD (i + 1) (dividesD (l.drop (i + 1)) t'.m)) := ⟨HDV.out.trans (dividesD_skip HTI.out (fun u2 b2 e => by injection e with e1 e2; subst e1; rw [HM.out]))⟩
       go_wp2_with fail
       go_roundw
       case measure => first | (simp [intOf]; done) | (simp [intOf]; omega)
       case rel => exact ⟨i + 1, by go_num, by omega, D3, K3, TT3, HN⟩
      ·have HN : Hd (dividesD l t'.m = some (i, mm)) := ⟨by rw [HDV.out, dividesD_hit HTI.out (by rw [HM.out]), HM.out]⟩
       have hmay : polMay o (u :: b') = true := List.all_eq_true.1 HMay.out.2 _ (List.mem_of_getElem? HTI.out)
       obtain ⟨v, q, hv, hq1, hov⟩ := D3.out.mat.get (j := i) (by rw [D3.out.len]; exact hil)
       obtain ⟨E, hE⟩ : ∃ E, moveD o p (u :: b') q k mm = E := ⟨_, rfl⟩
       have HE := aa hE
       have HQ := aa hq1
       have HF2 : Hd (D = if E.1 ≠ 0 then (E.1, [], []) else splitF o l n E.2.1 (qs.set i E.2.2) r (k + 1)) := ⟨by
        rw [← HF.out, HP.out]
        exact splitF_move HN.out HTI.out hq1 (by rw [← HP.out]; exact hE)⟩
       have CM := aa (div_move D3.out HP.out HTI.out hmay hq1 hsp.out HS.out.2 (hq.out q (List.mem_of_getElem? hq1)).1 hk.out hE)
       simp only [MonD.v] at CM
       obtain ⟨m0, m1, m2, m3⟩ := KM.out.four
       clear hmay hv hov hE hq1
       go_wp2_with fail
       refine CM.out.mono ?_
       rintro e w6 ⟨rfl, hb6, hok⟩
       have HOK := aa hok
       have HB6 := aa hb6
       clear hok hb6 CM m0 m1 m2 m3
       by_cases hE1 : E.1 = 0
       ·have e1 : (E.1 != 0) = false := by rw [hE1]; rfl
        have HF3 := aa (HF2.out.trans (if_neg (by simpa using hE1)))
        have HE1 := aa hE1
        clear hE1
        go_wp2_with fail
        go_roundg n
        case measure => omega
        case rel =>
         obtain ⟨A', c', vs', D6⟩ := HOK.out HE1.out
         have hk4 : ¬ 400 ≤ k := fun h => by
          have h2 := HE.out
          rw [HP.out] at h2
          unfold moveD at h2
          simp only [if_pos h] at h2
          have h3 := HE1.out
          rw [← h2] at h3
          cases h3
         refine ⟨A', c', E.2.1, vs', _, r, qs.set i E.2.2, k + 1, ⟨D6⟩, ⟨by omega⟩, hr, ⟨?_⟩, ⟨?_⟩, ⟨?_⟩, ⟨HF3.out.symm⟩⟩
         ·rw [← HE.out]
          exact (moveD_shorts hsp.out (HS.out.2.2 _ (List.mem_of_getElem? HTI.out)) ⟨ah (hq.out q (List.mem_of_getElem? HQ.out)).1 (by omega), (hq.out q (List.mem_of_getElem? HQ.out)).2⟩).1
         ·intro q' hq'
          rcases List.mem_or_eq_of_mem_set hq' with h | h
          ·exact hq.out _ h
          ·rw [h, ← HE.out]
           exact ⟨moveD_len (by rw [HE.out]; exact HE1.out), (moveD_shorts hsp.out (HS.out.2.2 _ (List.mem_of_getElem? HTI.out)) ⟨ah (hq.out q (List.mem_of_getElem? HQ.out)).1 (by omega), (hq.out q (List.mem_of_getElem? HQ.out)).2⟩).2⟩
         ·have := hg.out
          unfold needF at this ⊢
          omega
       ·have e1 : (E.1 != 0) = true := by rw [bne_iff_ne]; exact hE1
        have HF3 := aa (HF2.out.trans (if_pos hE1))
        clear hE1
        go_wp2_with fail
        go_ret3
        exact SplitPostF.bad HF3.out HB6.out
    ·have hil' : ¬ (i : Int) < l.length := by omega
     have hil2 : i = l.length := by omega
     have HN : Hd (dividesD l t'.m = none) := ⟨by rw [HDV.out, hil2]; exact dividesD_end⟩
     clear HDV hil hil2
     obtain ⟨-, -, -, -, d4, -⟩ := D2.out.kd.six'
     obtain ⟨⟨k0, k1, k2⟩, k3, k4, k5, k6⟩ := K2.out.seven
     have S2 : Hd ((wr.drew.cell? ⟨gd, 4, none⟩ = some (.slice RA r.length rc)) ∧ wr.drew.cell? ⟨gb, 0, none⟩ = some (.bool t'.c.neg) ∧ wr.drew.cell? ⟨gb, 1, none⟩ = some (.slice T1 t'.c.num.length tc1) ∧ wr.drew.cell? ⟨gb, 2, none⟩ = some (.slice T2 t'.c.den.length tc2) ∧ wr.drew.cell? ⟨gb, 3, none⟩ = some (.int .i64 t'.m.x0) ∧ wr.drew.cell? ⟨gb, 4, none⟩ = some (.int .i64 t'.m.x1) ∧ wr.drew.cell? ⟨gb, 5, none⟩ = some (.int .i64 t'.m.x2) ∧ wr.drew.cell? ⟨gb, 6, none⟩ = some (.int .i64 t'.m.x3)) := ⟨d4, k0, k1, k2, k3, k4, k5, k6⟩
     go_wp2_with fail
     clear d4 k0 k1 k2 k3 k4 k5 k6
     refine wp_region_head 6 8 (fun W => (W.cell? ⟨gd, 4, none⟩ = some (.slice RA r.length rc)) ∧ W.cell? ⟨gb, 0, none⟩ = some (.bool t'.c.neg) ∧ W.cell? ⟨gb, 1, none⟩ = some (.slice T1 t'.c.num.length tc1) ∧ W.cell? ⟨gb, 2, none⟩ = some (.slice T2 t'.c.den.length tc2) ∧ W.cell? ⟨gb, 3, none⟩ = some (.int .i64 t'.m.x0) ∧ W.cell? ⟨gb, 4, none⟩ = some (.int .i64 t'.m.x1) ∧ W.cell? ⟨gb, 5, none⟩ = some (.int .i64 t'.m.x2) ∧ W.cell? ⟨gb, 6, none⟩ = some (.int .i64 t'.m.x3)) (by kernel_rfl) (by kernel_rfl) (fun c a d v w h => by cases d <;> exact h) (S2.out) ?_
     have D3 := aa (D2.out.up (ag _ _).drew)
     have K3 : Hd (Bk wr.drew gb 68 #[.bool t'.c.neg, .slice T1 t'.c.num.length tc1, .slice T2 t'.c.den.length tc2, .int .i64 t'.m.x0, .int .i64 t'.m.x1, .int .i64 t'.m.x2, .int .i64 t'.m.x3]) := ⟨K2.out⟩
     have TT3 := aa (TT2.out.up (ag _ _).drew)
     generalize wr.drew = wd at D3 K3 TT3 S2 ⊢
     clear D2 K2 TT2
     simp only [List.take_succ_cons, List.take_zero, List.drop_succ_cons, List.drop_zero]
     iterate 6 (refine ⟨?_, Or.inl ⟨by rfl, ?_⟩, ?_⟩; rotate_left; (intro W hW; obtain ⟨d4, k0, k1, k2, k3, k4, k5, k6⟩ := hW; go_simp; try with_reducible rfl); simp only [Act.put, List.setIfInBounds_toArray, List.set_cons_zero, List.set_cons_succ])
     refine wpHead_nil ?_
     change wpTail _ _ _ _ _ _ _ _ _
     refine wpTail_step (fun K hK => ?_)
     go_simp
     refine hK _ _ (fun _ => ⟨cell_up S2.out.1 (below1 _ _), cell_up S2.out.2.1 (below1 _ _), cell_up S2.out.2.2.1 (below1 _ _), cell_up S2.out.2.2.2.1 (below1 _ _), cell_up S2.out.2.2.2.2.1 (below1 _ _), cell_up S2.out.2.2.2.2.2.1 (below1 _ _), cell_up S2.out.2.2.2.2.2.2.1 (below1 _ _), cell_up S2.out.2.2.2.2.2.2.2 (below1 _ _)⟩) ?_
     clear hK K
     have HT := aa (rpol_one (t := t') TT3.out 68)
     obtain ⟨wA, hwA⟩ : ∃ wA, wd.alloc (Obj.cells #[.bool t'.c.neg, .slice T1 t'.c.num.length tc1, .slice T2 t'.c.den.length tc2, .int .i64 t'.m.x0, .int .i64 t'.m.x1, .int .i64 t'.m.x2, .int .i64 t'.m.x3] 68) = wA := ⟨_, rfl⟩
     have HBA : Hd (Below wd.heap.size wd wA) := ⟨by rw [← hwA]; exact below1 _ _⟩
     rw [hwA] at HT ⊢
     clear hwA
     have D4 := aa (D3.out.up HBA.out)
     have K4 := aa (K3.out.up HBA.out)
     have hO := aa (D4.out.mat.fam.own 0 _ rfl)
     have XL : Hd (r.length + ([t'] : List TermD).length ≤ 1000000) := ⟨by have := hr.out; simp; omega⟩
     refine wpTail_step (fun K hK => ?_)
     refine step_append_G (us := [t']) rfl _ _ 25 rfl Tryz.slPoly rfl rfl rfl hO.out HT.out D4.out.bb XL.out D4.out.below.size ?_
     intro v' w8 AP
     have hk1 : some gb ≠ (Value.slice RA r.length rc).ownBlock := HGB.out.2.2
     obtain ⟨s1, s2, s3, s4, s5, s6, s7, s8⟩ := S2.out
     refine hK _ _ (fun _ => ⟨cell_grown (cell_up s1 HBA.out) AP.grow (hO.out.ne D4.out.kd (by decide)), cell_grown (cell_up s2 HBA.out) AP.grow hk1, cell_grown (cell_up s3 HBA.out) AP.grow hk1, cell_grown (cell_up s4 HBA.out) AP.grow hk1, cell_grown (cell_up s5 HBA.out) AP.grow hk1, cell_grown (cell_up s6 HBA.out) AP.grow hk1, cell_grown (cell_up s7 HBA.out) AP.grow hk1, cell_grown (cell_up s8 HBA.out) AP.grow hk1⟩) ?_
     clear hK K s1 s2 s3 s4 s5 s6 s7 s8 hk1
     have D5 := aa (D4.out.rest AP)
     have fz := fun i => (D4.out.kd.grown AP.grow (hO.out.ne D4.out.kd (by decide))).froz i
     have z4 : w8.cell? ⟨gd, 4, none⟩ = some (.slice RA r.length rc) := cell_grown (cell_up S2.out.1 HBA.out) AP.grow (hO.out.ne D4.out.kd (by decide))
     have HO8 := aa AP.own
     have hNl : (r ++ [t'] : List TermD).length = r.length + 1 := by simp
     have hFN : splitF o l (n + 1) p qs r k = if 60 ≤ r.length then (90, [], []) else splitF o l n p' qs (r ++ [t']) k := by rw [HP.out]; exact splitF_rest HN.out
     obtain ⟨N, hN⟩ : ∃ N, r ++ [t'] = N := ⟨_, rfl⟩
     rw [hN] at D5 HO8 hNl hFN
     have HNl := aa hNl
     have HFN := aa (HF.out.symm.trans hFN)
     clear hNl hN AP hO HT K4 D4 S2 HBA D3 K3 TT3 XL hFN
     obtain ⟨A8, c8, rfl, hc8, -, -⟩ := HO8.out.reads
     refine wpTail_step (fun K hK => ?_)
     go_simp
     refine hK _ _ (fun h => absurd h (by decide)) ?_
     clear hK K
     refine wpTail_step (fun K hK => ?_)
     go_simp
     refine hK _ _ (fun h => absurd h (by decide)) ?_
     clear hK K
     refine wpTail_step (fun K hK => ?_)
     go_simp
     refine hK _ _ (fun h => absurd h (by decide)) ?_
     clear hK K fz z4
     refine wpTail_nil ?_
     generalize w8.setCell ⟨gd, 4, none⟩ (.slice A8 N.length c8) = w9 at D5 ⊢
     clear HO8
     obtain ⟨-, d1, -, -, d4, -⟩ := D5.out.kd.six'
     by_cases h60 : 60 ≤ r.length
     ·have h60' : (60 : Int) < N.length := by have := HNl.out; omega
      have HF2 : Hd (D = (90, [], [])) := ⟨HFN.out.trans (if_pos h60)⟩
      clear h60
      go_wp2_with fail
      go_ret3
      exact SplitPostF.bad HF2.out D5.out.below
     ·have h60' : ¬ (60 : Int) < N.length := by have := HNl.out; omega
      have HF2 := aa (HFN.out.trans (if_neg h60))
      have HR60 : Hd (N.length ≤ 60) := ⟨by have := HNl.out; omega⟩
      clear h60
      have fz := fun i => D5.out.kd.froz i
      have hpl : p.length - 1 = p'.length := by rw [HP.out]; simp
      have HPL := aa hpl
      have hpc : p.length ≤ c := D5.out.hc
      have HSP : Hd (shortP p') := ⟨by
       have h1 := hsp.out
       rw [HP.out] at h1
       exact ⟨by have h2 := h1.1; simp at h2; omega, fun s hs => h1.2 s (List.mem_cons_of_mem _ hs)⟩⟩
      have HG9 : Hd (needF k N ≤ n) := ⟨by
       have h1 := hg.out
       have h2 := HNl.out
       have h3 := HR60.out
       unfold needF at h1 ⊢
       omega⟩
      have D6 := D5.out
      rw [HP.out] at D6
      have D6 := aa D6
      clear hpl
      by_cases hc1 : c = 1
      ·have hpn : p' = [] := by
         have h1 := HPL.out
         exact List.eq_nil_of_length_eq_zero (by omega)
       have D7 := aa (D6.out.tail (ad := pa) (c' := 0) (by rw [hpn]; exact ae _) (fun h => absurd hpn h))
       have D7 : Hd (Dv b0 gd o L cl l w (w9.setCell ⟨gd, 1, none⟩ (.slice (some pa) (p.length - 1) 0)) (some pa) 0 p' (.slice (some ⟨G, 0, none⟩) l.length l.length) (.slice A8 N.length c8) vs N qs k) := ⟨by rw [HPL.out]; exact D7.out⟩
       clear hpn D6
       go_wp2_with fail
       go_roundg n
       case measure => omega
       case rel => exact ⟨_, _, p', vs, _, N, qs, k, D7, hk, HR60, HSP, hq, HG9, ⟨HF2.out.symm⟩⟩
      ·have D7 := aa (D6.out.tail (ad := pa.add 7) (c' := c - 1) (by have h1 := HPL.out; omega) (fun h => rfl))
       have D7 : Hd (Dv b0 gd o L cl l w (w9.setCell ⟨gd, 1, none⟩ (.slice (some (pa.add 7)) (p.length - 1) (c - 1))) (some (pa.add 7)) (c - 1) p' (.slice (some ⟨G, 0, none⟩) l.length l.length) (.slice A8 N.length c8) vs N qs k) := ⟨by rw [HPL.out]; exact D7.out⟩
       clear D6
       go_wp2_with fail
       go_roundg n
       case measure => omega
       case rel => exact ⟨_, _, p', vs, _, N, qs, k, D7, hk, HR60, HSP, hq, HG9, ⟨HF2.out.symm⟩⟩
theorem div_RestF (b0 : Nat) (o : Int) (A L : Option Addr) (c cl : Nat) (p : List TermD) (l : List (List TermD)) (w : World) (hb0 : b0 ≤ w.heap.size) (h : RPol w b0 A p) (hc : p.length ≤ c) (hs : shortP p) (hL : RPols w b0 L l) (hcl : l.length ≤ cl) (hsl : shortPs l) :
    Calls Tryz.prog 112 #[.int .i64 o, .slice A p.length c, .slice L l.length cl] w fun e w' => ∃ R rc, e = .returned (.tuple #[.slice R (splitD o p l).2.2.length rc, .int .i64 (splitD o p l).1]) ∧ (splitD o p l).2.2.length ≤ rc ∧ RPol w' b0 R (splitD o p l).2.2 ∧ Below w.heap.size w w' ∧ Fr w.heap.size R := by
 have CS := aa (div_SplitF b0 o A L c cl p l w hb0 h hc hs hL hcl hsl)
 obtain ⟨D, hD⟩ : ∃ D, splitD o p l = D := ⟨_, rfl⟩
 rw [hD] at CS ⊢
 clear hD h hs hL hsl
 go_enter Tryz.func112, Tryz.ntmps112
 go_wp2_with fail
 refine CS.out.mono ?_
 rintro e w' ⟨Q, qc, R, rc, rfl, -, hrc, -, hR, hB, hF⟩
 have HR := aa (af hR (af hB hF))
 clear hR hB hF CS
 go_wp2_with fail
 go_ret2
 exact ⟨R, rc, rfl, hrc, HR.out.1, HR.out.2⟩
theorem div_Rest (b0 : Nat) (o : Int) (A L : Option Addr) (c cl : Nat) (p : List TermD) (l : List (List TermD)) (w : World) (hb0 : b0 ≤ w.heap.size) (h : RPol w b0 A p) (hc : p.length ≤ c) (hs : shortP p) (hL : RPols w b0 L l) (hcl : l.length ≤ cl) (hsl : shortPs l) :
    Calls Tryz.prog 112 #[.int .i64 o, .slice A p.length c, .slice L l.length cl] w fun e w' => ∃ R rc, e = .returned (.tuple #[.slice R (splitD o p l).2.2.length rc, .int .i64 (splitD o p l).1]) ∧ (splitD o p l).2.2.length ≤ rc ∧ RPol w' b0 R (splitD o p l).2.2 ∧ Below w.heap.size w w' :=
 (div_RestF b0 o A L c cl p l w hb0 h hc hs hL hcl hsl).mono fun _ _ ⟨R, rc, h1, h2, h3, h4, _⟩ => ⟨R, rc, h1, h2, h3, h4⟩
theorem same_list (b0 : Nat) (L M : Option Addr) (cl cm : Nat) (l m : List (List TermD)) (w : World) (h : RPols w b0 L l) (hs : shortPs l) (h' : RPols w b0 M m) (hs' : shortPs m) :
    Calls Tryz.prog 41 #[.slice L l.length cl, .slice M m.length cm] w fun e w' => e = .returned (.bool (decide (l = m))) ∧ Below w.heap.size w w' := by
 have hl := hs.1
 have hm := hs'.1
 have HP := aa h
 have HS := aa hs
 have HP' := aa h'
 have HS' := aa hs'
 clear h hs h' hs'
 by_cases hlen : l.length = m.length
 ·have e1 : ((l.length : Int) != (m.length : Int)) = false := by rw [bne_eq_false_iff_eq]; omega
  have HLn := aa hlen
  clear hlen
  go_enter Tryz.func41, Tryz.ntmps41
  go_wp2_with fail
  go_loopw [5] (fun v wr => ∃ i : Nat, v = .int .i64 i ∧ i ≤ l.length ∧ Hd (Below w.heap.size w wr) ∧ Hd (l.take i = m.take i)) (fun v _ => l.length - (intOf v).toNat)
  case atStart => exact ⟨0, rfl, by omega, ⟨.refl _ _⟩, ⟨rfl⟩⟩
  case round =>
   obtain ⟨i, rfl, hi, hb, ha⟩ := hrel
   by_cases hlt : i < l.length
   ·have hlt2 : i < m.length := by have := HLn.out; omega
    have i1 : (i : Int) < l.length := by omega
    have i2 : (i : Int) < m.length := by omega
    have i3 : (0 : Int) ≤ i := by omega
    obtain ⟨la, a, pc, p, rfl, -, hti, hcell, hpc, hrp⟩ := (HP.out.up hb.out).get hlt
    obtain ⟨ma, b, qc, q, rfl, -, hti', hcell', hqc, hrq⟩ := (HP'.out.up hb.out).get hlt2
    have HG : Hd (l[i] = p ∧ m[i] = q) := ⟨by
     have e1 := hti.out; have e2 := hti'.out
     rw [ai hlt] at e1; rw [ai hlt2] at e2
     exact ⟨Option.some.inj e1, Option.some.inj e2⟩⟩
    have HN := aa (show p ≠ q → decide (l = m) = false from fun hne => decide_eq_false fun e => hne (by rw [← HG.out.1, ← HG.out.2]; subst e; rfl))
    have HQ := aa (show p = q → l.take (i + 1) = m.take (i + 1) from fun e => by
     rw [List.take_succ_eq_append_getElem hlt, List.take_succ_eq_append_getElem hlt2, ha.out, HG.out.1, HG.out.2, e])
    have CS := aa (fun W (hB : Below wr.heap.size wr W) => rpol_Same b0 a b pc qc p q W (hrp.out.up hB) hpc (HS.out.2 _ (List.mem_of_getElem? hti.out)) (hrq.out.up hB) hqc (HS'.out.2 _ (List.mem_of_getElem? hti'.out)))
    have SO := aa (fun W (hB : Below wr.heap.size wr W) => af (aa hB) (af (cell_up hcell hB) (cell_up hcell' hB)))
    obtain ⟨E, hE⟩ : ∃ E, decide (p = q) = E := ⟨_, rfl⟩
    rw [hE] at CS
    have HEQ := aa hE
    clear hti hti' hrp hrq HG hE
    cases E
    ·have HF := aa (HN.out (of_decide_eq_false HEQ.out))
     go_wp2_with fail
     go_region_held3 (fun W => Hd (Below wr.heap.size wr W) ∧ W.cell? (la.add i) = some (.slice a p.length pc) ∧ W.cell? (ma.add i) = some (.slice b q.length qc))
      (first
       | with_reducible exact SO.out _ (.refl _ _)
       | with_reducible exact SO.out _ (ag _ _).drew
       | with_reducible exact SO.out _ hB5
       | fail)
      (first
       | (go_at_call 80; have hB := ‹Hd (Below wr.heap.size wr _) ∧ _›.1; with_reducible refine (CS.out _ hB.out).mono ?_; rintro e w5 ⟨rfl, hb5⟩
          have hB5 := hB.out.trans (hb5.mono hB.out.size)))
     all_goals
      go_wp2_with fail
      go_ret
      exact ⟨retBool HF.out.symm, goes hb.out hB5⟩
    ·have HF := aa (HQ.out (of_decide_eq_true HEQ.out))
     go_wp2_with fail
     go_region_held3 (fun W => Hd (Below wr.heap.size wr W) ∧ W.cell? (la.add i) = some (.slice a p.length pc) ∧ W.cell? (ma.add i) = some (.slice b q.length qc))
      (first
       | with_reducible exact SO.out _ (.refl _ _)
       | with_reducible exact SO.out _ (ag _ _).drew
       | with_reducible exact SO.out _ hB5
       | fail)
      (first
       | (go_at_call 80; have hB := ‹Hd (Below wr.heap.size wr _) ∧ _›.1; with_reducible refine (CS.out _ hB.out).mono ?_; rintro e w5 ⟨rfl, hb5⟩
          have hB5 := hB.out.trans (hb5.mono hB.out.size)))
     all_goals
      go_wp2_with fail
      go_roundw
      case measure => first | (simp [intOf]; done) | (simp [intOf]; omega)
      case rel => exact ⟨i + 1, by go_num, by omega, ⟨goes hb.out hB5⟩, HF⟩
   ·obtain rfl : i = l.length := by omega
    have HF : Hd (l = m) := ⟨by have := ha.out; rwa [List.take_length, HLn.out, List.take_length] at this⟩
    go_wp2_with fail
    go_ret
    exact ⟨retBool (decide_eq_true HF.out).symm, hb.out⟩
 ·have e1 : ((l.length : Int) != (m.length : Int)) = true := by rw [bne_iff_ne]; omega
  have HLn := aa hlen
  clear hlen
  go_enter Tryz.func41, Tryz.ntmps41
  go_wp2_with fail
  go_ret
  exact ⟨retBool (decide_eq_false fun e => HLn.out (by rw [e])).symm, .refl _ _⟩
end Go.Proofs.YtgjkgkgieeoalaaGreat
namespace Go.Proofs.YtgjkgkgieeoalaaGreat
open Go.RowKit Go.PlainAid
theorem rpols_bk1 {W : World} {b0 g : Nat} {t : TypeId} {p : List TermD} {A : Option Addr} {c : Nat} (hk : Bk W g t #[.slice A p.length c]) (h : RPol W b0 A p) (hc : p.length ≤ c) : RPols W b0 (some ⟨g, 0, none⟩) [p] := by
 refine ⟨_, Rd.of_bk hk 1 1 rfl, fun j r hj => ?_⟩
 match j, hj with
 | 0, hj => injection hj with hj; subst hj; exact ⟨_, _, rfl, hc, h⟩
 | n + 1, hj => cases hj
end Go.Proofs.YtgjkgkgieeoalaaGreat
