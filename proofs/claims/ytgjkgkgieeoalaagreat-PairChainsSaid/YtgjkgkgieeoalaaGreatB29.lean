/- Parts of the proof, joined: each theorem says what it shows. -/
import Derived.Test.YtgjkgkgieeoalaaGreatB27
import Derived.Test.YtgjkgkgieeoalaaGreatB28
set_option linter.unusedVariables false
set_option linter.unusedSimpArgs false
set_option maxHeartbeats 24000000
set_option maxRecDepth 100000
namespace Go.Proofs.YtgjkgkgieeoalaaGreat
open Go.RowKit Go.PlainAid
theorem eatK_ge (s : ByteArray) (k : Nat) (c : Int) : k ≤ eatK s k c := by
 have := (skipF_ge s (s.size - k) k).1
 unfold eatK
 split <;> (unfold skipD; omega)
theorem eatK_gt {s : ByteArray} {k : Nat} {c : Int} (h : eatB s k c = true) : k < eatK s k c := by
 have := (skipF_ge s (s.size - k) k).1
 unfold eatK
 rw [if_pos h]
 unfold skipD; omega
theorem numberK_ge {s : ByteArray} {k : Nat} (h : k ≤ s.size) : k ≤ numberK s k := by
 have h1 := (skipF_ge s (s.size - k) k).1
 have h2 := (runD_le (skipD_le h)).1
 unfold numberK
 unfold skipD at *
 omega
theorem factorD_le {s : ByteArray} {k : Nat} {bad : Bool} (h : k ≤ s.size) : k ≤ (factorD s k bad).2.1 ∧ (factorD s k bad).2.1 ≤ s.size := by
 have h0 := (skipF_ge s (s.size - k) k).1
 have h1 := skipD_le h
 unfold factorD
 dsimp only
 have hk1 : k ≤ skipD s k := h0
 split
 ·have a1 := eatK_le (c := bt s (skipD s k)) h1
  have a2 := eatK_ge s (skipD s k) (bt s (skipD s k))
  have b1 := eatK_le (c := 94) a1
  have b2 := eatK_ge s (eatK s (skipD s k) (bt s (skipD s k))) 94
  split
  ·have c1 := numberK_le b1
   have c2 := numberK_ge b1
   exact ⟨Nat.le_trans hk1 (Nat.le_trans a2 (Nat.le_trans b2 c2)), c1⟩
  ·exact ⟨Nat.le_trans hk1 (Nat.le_trans a2 b2), b1⟩
 ·have a1 := numberK_le h1
  have a2 := numberK_ge h1
  have b1 := eatK_le (c := 47) a1
  have b2 := eatK_ge s (numberK s (skipD s k)) 47
  split
  ·have c1 := numberK_le b1
   have c2 := numberK_ge b1
   exact ⟨Nat.le_trans hk1 (Nat.le_trans a2 (Nat.le_trans b2 c2)), c1⟩
  ·exact ⟨Nat.le_trans hk1 (Nat.le_trans a2 b2), b1⟩
def facsF (s : ByteArray) : Nat → List FacD → Nat → Bool → List FacD × Nat × Bool
 | 0, fs, k, bad => (fs, k, bad)
 | n + 1, fs, k, bad =>
   if bad = true then (fs, k, bad) else
   if eatB s k 42 = true then facsF s n (fs ++ [(factorD s (eatK s k 42) bad).1]) (factorD s (eatK s k 42) bad).2.1 (factorD s (eatK s k 42) bad).2.2 else (fs, eatK s k 42, bad)
structure ProdD where
 neg : Bool
 fs : List FacD
def productD (s : ByteArray) (k : Nat) (bad neg : Bool) : ProdD × Nat × Bool :=
 let x := factorD s k bad
 let y := facsF s (s.size + 1) [x.1] x.2.1 x.2.2
 (⟨neg, y.1⟩, y.2.1, y.2.2)
def cellsF (fs : List FacD) : List Value := fs.flatMap fun f => [.int .i64 f.var, .string f.up, .string f.down]
def OwnF (w : World) (base : Nat) (v : Value) (fs : List FacD) : Prop := w.ownsRow base 292 3 v fs.length (cellsF fs)
theorem Tryz.stPro : isStruct (Tryz.prog.underlying 251) = true := by kernel_rfl
theorem Tryz.szPro : (Tryz.prog.info? 251).map (·.size) = some 2 := by kernel_rfl
theorem res_pro {fn : Func} {p : Tmp} (h : fn.results = #[.cell p 251]) (tmps : Array Value) (w : World) (g : Nat) (cs : Array Value) (hp : tmps.getD p undef = .pointer (some ⟨g, 0, none⟩)) (hk : Bk w g 251 cs) (hc : cs.size = 2) :
    (results fn tmps).run Tryz.prog w = .ok (.agg cs) w := by
 obtain ⟨f, h1⟩ := st_of Tryz.stPro
 exact results_cell_row h tmps w g _ cs (0, 0) (.struct f) hp hk h1 rfl (by rw [hc]; exact Tryz.szPro)
theorem Tryz.slFac : Tryz.prog.underlying 249 = some (.slice 292) := by kernel_rfl
theorem Tryz.infFac : (Tryz.prog.info? 292).map (fun i => (i.zero, i.size, i.bytes)) = some (some (.agg #[.int .i64 0, .string ⟨#[]⟩, .string ⟨#[]⟩]), 3, 40) := by kernel_rfl
theorem Bk.two' {w : World} {g : Nat} {t : TypeId} {v0 v1 : Value} (h : Bk w g t #[v0, v1]) : w.cell? ⟨g, 0, none⟩ = some v0 ∧ w.cell? ⟨g, 1, none⟩ = some v1 := by
 refine ⟨?_, ?_⟩ <;> (rw [h.cell]; rfl)
theorem gb_new {w w1 w2 : World} {row r2 : Option Nat} (h : w.grownBy w1 row) (k : w1.grownBy w2 r2) (hr : ∀ b, r2 = some b → w.heap.size ≤ b) : w.grownBy w2 row :=
 ⟨k.os.trans h.os, k.tape.trans h.tape, k.output.trans h.output, Nat.le_trans h.size k.size, fun b hb hne => (k.block b (Nat.lt_of_lt_of_le hb h.size) (fun e => absurd hb (Nat.not_lt.2 (hr b e.symm)))).trans (h.block b hb hne)⟩
theorem OwnF.up {w w' : World} {base : Nat} {v : Value} {fs : List FacD} (h : OwnF w base v fs) (hb : Below w.heap.size w w') : OwnF w' base v fs := own_below h hb
theorem OwnF.grown {w w' : World} {base g : Nat} {v : Value} {fs : List FacD} {t : TypeId} {cs : Array Value} (h : OwnF w base v fs) (hg : w.grownBy w' (some g)) (hk : Bk w g t cs) (ht : t ≠ 292) : OwnF w' base v fs :=
 World.ownsRow.kept h hg (by
  cases e : v.ownBlock with
  | none => exact .inl rfl
  | some b =>
    refine .inr fun e2 => ?_
    obtain ⟨⟨ds, hk2⟩, _⟩ := own_bk h e
    injection e2 with e2
    exact Bk.ne_ hk hk2 ht e2.symm)
theorem OwnF.ne {w : World} {base g : Nat} {v : Value} {fs : List FacD} {t : TypeId} {cs : Array Value} (h : OwnF w base v fs) (hk : Bk w g t cs) (ht : t ≠ 292) : some g ≠ v.ownBlock := fun e => by
 obtain ⟨⟨ds, hk2⟩, _⟩ := own_bk h e.symm
 exact Bk.ne_ hk hk2 ht rfl
theorem cellsF_app (fs : List FacD) (f : FacD) : cellsF (fs ++ [f]) = cellsF fs ++ [.int .i64 f.var, .string f.up, .string f.down] := by simp [cellsF]
theorem OwnF.one {w : World} {base : Nat} (f : FacD) (hb : base ≤ w.heap.size) : OwnF (w.alloc (.cells f.v 292)) base (.slice (some ⟨w.heap.size, 0, none⟩) 1 1) [f] :=
 World.ownsRow_lit (e := 292) (size := 3) w f.v 1 hb (by unfold maxLen; omega) rfl
theorem OwnF.reads {w : World} {base : Nat} {v : Value} {fs : List FacD} (h : OwnF w base v fs) : ∃ A c, v = .slice A fs.length c ∧ fs.length ≤ c ∧ c ≤ maxLen := by
 rcases h.2 with ⟨rfl, h0⟩ | ⟨g, cap, cur, rfl, _, _, h4, h5, _⟩
 ·exact ⟨none, 0, by rw [h0], by omega, by unfold maxLen; omega⟩
 ·exact ⟨_, cap, rfl, h4, h5⟩
theorem text_product (s : ByteArray) (k g : Nat) (bad neg : Bool) (w : World) (hk : Bk w g 244 (tx s k bad)) (hs : s.size ≤ 1000000) (hks : k ≤ s.size) :
    Calls Tryz.prog 265 #[.pointer (some ⟨g, 0, none⟩), .bool neg] w fun e w' => ∃ v, e = .returned (.agg #[.bool (productD s k bad neg).1.neg, v]) ∧ OwnF w' w.heap.size v (productD s k bad neg).1.fs ∧ Bk w' g 244 (tx s (productD s k bad neg).2.1 (productD s k bad neg).2.2) ∧ w.grownBy w' (some g) := by
 obtain ⟨E, hE⟩ : ∃ E, productD s k bad neg = E := ⟨_, rfl⟩
 rw [hE]
 have HE := Hd.mk hE
 clear hE
 unfold productD at HE
 dsimp only at HE
 have hsm : s.size ≤ maxLen := by unfold maxLen; omega
 have CF := Hd.mk (fun W (hW : Bk W g 244 (tx s k bad)) => text_factor s k g bad W hW hsm hks)
 have hX2 := factorD_le (bad := bad) hks
 obtain ⟨X, hX⟩ : ∃ X, factorD s k bad = X := ⟨_, rfl⟩
 rw [hX] at CF HE hX2
 obtain ⟨F1, k1, bad1⟩ := X
 dsimp only [FacD.v] at CF HE hX2
 have HX2 := Hd.mk hX2
 have HK := Hd.mk hk
 have hgl := hk.lt
 clear hX hX2 hk
 go_enter Tryz.func265, Tryz.ntmps265
 go_upto_region 1 with (fail)
 refine wp_gen (fun W => Bk W g 244 (tx s k bad) ∧ Bk W w.heap.size 251 #[.bool false, .slice none 0 0] ∧ w.grownBy W (some g)) ⟨HK.out.al _, Bk.new_ _ _ _, gb_of ((Below.refl _ _).alloc (Nat.le_refl _) _)⟩ ?_
 intro W hW
 have hne : some w.heap.size ≠ some g := fun e => by injection e with e; omega
 obtain ⟨gr, hgr⟩ : ∃ gr, w.heap.size = gr := ⟨_, rfl⟩
 have HGR : Hd (w.heap.size ≤ gr ∧ some gr ≠ some g) := ⟨by omega, by rw [← hgr]; exact hne⟩
 rw [hgr] at hW ⊢
 have HB := Hd.mk hW.out.1
 have HR := Hd.mk hW.out.2.1
 have HG := Hd.mk hW.out.2.2
 have HGE := Hd.mk hgr
 clear hW hne hgl HK hgr
 go_wp2_with fail
 refine (CF.out _ HB.out).mono ?_
 rintro e w2 ⟨rfl, hb2, hg2⟩
 have HB2 := Hd.mk hb2
 have HR2 := Hd.mk (HR.out.grown hg2 HGR.out.2)
 have HG2 := Hd.mk (gb_trans HG.out hg2)
 clear hb2 hg2 HB HR HG CF
 go_upto_region 2 with (fail)
 obtain ⟨Y, hY⟩ : ∃ Y, facsF s (s.size + 1) [F1] k1 bad1 = Y := ⟨_, rfl⟩
 have HY := Hd.mk hY
 rw [hY] at HE
 clear hY
 have HO2 := OwnF.one (base := gr) F1 (by have := HG2.out.size; have := HGE.out; omega : gr ≤ w2.heap.size)
 dsimp only [FacD.v] at HO2
 refine wp_gen (fun W => Bk W g 244 (tx s k1 bad1) ∧ Bk W gr 251 #[.bool false, .slice none 0 0] ∧ w.grownBy W (some g) ∧ OwnF W gr (.slice (some ⟨w2.heap.size, 0, none⟩) 1 1) [F1] ∧ Bk W (w2.heap.size + 1) 251 #[.bool neg, .slice (some ⟨w2.heap.size, 0, none⟩) 1 1]) ⟨(HB2.out.al _).al _, (HR2.out.al _).al _, gb_trans HG2.out (gb_of (((Below.refl _ _).alloc (Nat.le_refl _) _).alloc (by simp) _)), HO2.up ((Below.refl _ _).alloc (Nat.le_refl _) _), Bk.new2 _ _ _ _⟩ ?_
 intro W3 hW
 have hgp : gr < w2.heap.size + 1 ∧ g < w2.heap.size + 1 := ⟨Nat.lt_succ_of_lt HR2.out.lt, Nat.lt_succ_of_lt HB2.out.lt⟩
 generalize w2.heap.size + 1 = gp at hW hgp ⊢
 generalize w2.heap.size = gf at hW ⊢
 have HGP : Hd (gr < gp ∧ some gp ≠ some g ∧ some gr ≠ some gp) := ⟨hgp.1, fun e => by injection e with e; omega, fun e => by injection e with e; omega⟩
 have HB3 := Hd.mk hW.out.1
 have HR3 := Hd.mk hW.out.2.1
 have HG3 := Hd.mk hW.out.2.2.1
 have HO3 := Hd.mk hW.out.2.2.2.1
 have HP3 := Hd.mk hW.out.2.2.2.2
 clear hW hgp HB2 HR2 HG2 HO2
 go_loopg [11] (s.size + 1) (fun n _ wr => ∃ (v : Value) (fs : List FacD) (kk : Nat) (bb : Bool), kk ≤ s.size ∧ Hd (Bk wr g 244 (tx s kk bb)) ∧ Hd (Bk wr gr 251 #[.bool false, .slice none 0 0]) ∧ Hd (w.grownBy wr (some g)) ∧ Hd (OwnF wr gr v fs) ∧ Hd (Bk wr gp 251 #[.bool neg, v]) ∧ Hd (facsF s n fs kk bb = Y) ∧ Hd (fs.length + (s.size - kk) ≤ s.size + 1) ∧ Hd (s.size - kk < n))
 case atStart => exact ⟨_, [F1], k1, bad1, HX2.out.2, HB3, HR3, HG3, HO3, HP3, HY, ⟨by simp; omega⟩, ⟨by omega⟩⟩
 case round =>
  clear HB3 HR3 HG3 HO3 HP3 HY
  obtain ⟨v, fs, kk, bb, hkk, HB, HR, HG, HO, HP, HY, HL, HN⟩ := hrel
  obtain ⟨n, rfl⟩ : ∃ n, gk = n + 1 := ⟨gk - 1, by have := HN.out; omega⟩
  obtain ⟨Av, cv, rfl, hcv, hcm⟩ := HO.out.reads
  obtain ⟨q0, q1, q2⟩ := HB.out.three
  cases bb
  ·have CE := Hd.mk (text_eat s kk g false 42 wr HB.out hsm hkk)
   have h3 := eatK_le (c := 42) hkk
   cases he : eatB s kk 42
   ·have HT : Hd (Y = (fs, eatK s kk 42, false)) := ⟨by rw [← HY.out]; unfold facsF; rw [he]; rfl⟩
    rw [he] at CE
    clear he
    go_wp2_with fail
    refine CE.out.mono ?_
    rintro e w5 ⟨rfl, hb5, hg5⟩
    have HB5 := Hd.mk hb5
    have HR5 := Hd.mk (HR.out.grown hg5 HGR.out.2)
    have HP5 := Hd.mk (HP.out.grown hg5 HGP.out.2.1)
    have HO5 := Hd.mk (HO.out.grown hg5 HB.out (by decide))
    have HG5 := Hd.mk (gb_trans HG.out hg5)
    clear hb5 hg5 CE q0 q1 q2 HB HR HP HO HG
    obtain ⟨p0, p1⟩ := HP5.out.two'
    obtain ⟨r0, r1⟩ := HR5.out.two'
    have fz := fun i => HR5.out.froz i
    go_wp2_with fail
    refine bodyPost_ret (res_pro rfl _ _ gr _ rfl ((HR5.out.set_ 0 _).set_ 1 _) rfl) rfl ?_
    rw [HE.out.symm, HT.out]
    have hset : w5.grownBy ((w5.setCell ⟨gr, 0, none⟩ (.bool neg)).setCell ⟨gr, 1, none⟩ (.slice Av fs.length cv)) (some gr) := (set_grown w5 ⟨gr, 0, none⟩ _).set 1 _
    exact ⟨_, rfl, by rw [HGE.out]; exact HO5.out.grown hset HR5.out (by decide), HB5.out.grown hset (fun e => HGR.out.2 e.symm), gb_set (gb_set HG5.out HGR.out.1 _ _) HGR.out.1 _ _⟩
   ·obtain ⟨X, hX⟩ : ∃ X, factorD s (eatK s kk 42) false = X := ⟨_, rfl⟩
    have HT : Hd (facsF s n (fs ++ [X.1]) X.2.1 X.2.2 = Y) := ⟨by rw [← HY.out]; conv => rhs; unfold facsF; rw [if_neg (by simp), if_pos he, hX]⟩
    have hgt := eatK_gt he
    have hX2 := factorD_le (bad := false) h3
    rw [he] at CE
    obtain ⟨kq, hkq⟩ : ∃ kq, eatK s kk 42 = kq := ⟨_, rfl⟩
    rw [hkq] at CE hX h3 hgt hX2
    rw [hX] at hX2
    have CF := Hd.mk (fun W (hW : Bk W g 244 (tx s kq false)) => text_factor s kq g false W hW hsm h3)
    rw [hX] at CF
    obtain ⟨F2, k2, bad2⟩ := X
    dsimp only [FacD.v] at CF HT hX2
    have HXK := Hd.mk hX2
    clear he hkq hX hX2
    go_wp2_with fail
    refine CE.out.mono ?_
    rintro e w5 ⟨rfl, hb5, hg5⟩
    have HB5 := Hd.mk hb5
    have HR5 := Hd.mk (HR.out.grown hg5 HGR.out.2)
    have HP5 := Hd.mk (HP.out.grown hg5 HGP.out.2.1)
    have HO5 := Hd.mk (HO.out.grown hg5 HB.out (by decide))
    have HG5 := Hd.mk (gb_trans HG.out hg5)
    clear hb5 hg5 CE q0 q1 q2 HB HR HP HO HG
    go_wp2_with fail
    have HS5 : Hd (w5.drew.cell? ⟨gp, 1, none⟩ = some (.slice Av fs.length cv)) := ⟨HP5.out.two'.2⟩
    refine wp_region_head 3 6 (fun W => W.cell? ⟨gp, 1, none⟩ = some (.slice Av fs.length cv)) (by kernel_rfl) (by kernel_rfl) (fun c a d v w h => by cases d <;> exact h) HS5.out ?_
    simp only [List.take_succ_cons, List.take_zero, List.drop_succ_cons, List.drop_zero]
    iterate 3 (refine ⟨?_, Or.inl ⟨by rfl, ?_⟩, ?_⟩; rotate_left; (intro W hW; go_simp; try with_reducible rfl); simp only [Act.put, List.setIfInBounds_toArray, List.set_cons_zero, List.set_cons_succ])
    refine wpHead_nil ?_
    change wpTail _ _ _ _ _ _ _ _ _
    refine wpTail_step (fun K hK => ?_)
    go_simp
    refine (CF.out _ HB5.out.d1).mono ?_
    rintro e w6 ⟨rfl, hb6, hg6⟩
    have HB6 := Hd.mk hb6
    have hg56 := gb_trans (gb_dn (gb_of (Below.refl w5.heap.size w5)) 1) hg6
    have HR6 := Hd.mk (HR5.out.grown hg56 HGR.out.2)
    have HP6 := Hd.mk (HP5.out.grown hg56 HGP.out.2.1)
    have HO6 := Hd.mk (HO5.out.grown hg56 HB5.out (by decide))
    have HG6 := Hd.mk (gb_trans HG5.out hg56)
    refine hK _ _ (fun _ => HP6.out.two'.2) ?_
    clear hK K hb6 hg6 hg56 HB5 HR5 HP5 HO5 HG5 HS5 CF
    refine wpTail_step (fun K hK => ?_)
    go_simp
    refine hK _ _ (fun _ => cell_up HP6.out.two'.2 ((Below.refl _ _).alloc (Nat.le_refl _) _)) ?_
    clear hK K
    have hbg : gr ≤ w6.heap.size := by have := HG6.out.size; have := HGE.out; omega
    have HO7 := Hd.mk (HO6.out.up ((Below.refl w6.heap.size w6).alloc (Nat.le_refl _) (.cells #[.int .i64 F2.var, .string F2.up, .string F2.down] 292)))
    have HP7 := Hd.mk (HP6.out.al (.cells #[.int .i64 F2.var, .string F2.up, .string F2.down] 292))
    have HR7 := Hd.mk (HR6.out.al (.cells #[.int .i64 F2.var, .string F2.up, .string F2.down] 292))
    have HB7 := Hd.mk (HB6.out.al (.cells #[.int .i64 F2.var, .string F2.up, .string F2.down] 292))
    have HG7 := Hd.mk (gb_trans HG6.out (gb_of ((Below.refl w6.heap.size w6).alloc (Nat.le_refl _) (.cells #[.int .i64 F2.var, .string F2.up, .string F2.down] 292))))
    have RN := Hd.mk (Rd.new_ w6 #[.int .i64 F2.var, .string F2.up, .string F2.down] 292 1 3 rfl)
    have H1 : Hd (∀ u ∈ [Value.int .i64 F2.var, .string F2.up, .string F2.down], u.oneCell' = true) := ⟨fun u hu => by
     simp only [List.mem_cons, List.not_mem_nil, or_false] at hu
     rcases hu with rfl | rfl | rfl <;> rfl⟩
    obtain ⟨i0, hi0, hz0, hz1, hz2⟩ := info_split Tryz.infFac
    have hfl : fs.length ≤ 1000001 := by have := HL.out; omega
    have HX1 : Hd (fs.length + 1 ≤ maxLen ∧ (fs.length + 1) * 40 ≤ 140737488355328) := ⟨by unfold maxLen; omega, by omega⟩
    refine wpTail_step (fun K hK => ?_)
    refine step_append_rdN _ rfl _ _ 249 rfl gr 292 i0 _ 3 40 Tryz.slFac hi0 hz0 hz1 hz2 rfl (by decide) _ fs.length (cellsF fs) rfl HO7.out _ _ 1 1 _ rfl RN.out H1.out HX1.out.1 HX1.out.2 (by simp; omega) ?_
    intro v' w8 ho8 hg8 hat8
    have HO8 : Hd (OwnF w8 gr v' (fs ++ [F2])) := ⟨by unfold OwnF; rw [cellsF_app, List.length_append]; exact ho8⟩
    have HB8 := Hd.mk (HB7.out.grown hg8 (HO7.out.ne HB7.out (by decide)))
    have HR8 := Hd.mk (HR7.out.grown hg8 (HO7.out.ne HR7.out (by decide)))
    have HP8 := Hd.mk (HP7.out.grown hg8 (HO7.out.ne HP7.out (by decide)))
    have HG8 := Hd.mk (gb_new HG7.out hg8 (fun b hb => by rw [HGE.out]; exact (own_bk HO7.out hb).2))
    refine hK _ _ (fun _ => HP8.out.two'.2) ?_
    obtain ⟨p0, p1⟩ := HP8.out.two'
    have fz := fun i => HP8.out.froz i
    clear hK K ho8 hg8 hat8 HB6 HR6 HP6 HO6 HG6 HB7 HR7 HP7 HO7 HG7 RN H1 hi0 hz0 hz1 hz2 HX1 hbg
    have hNl : (fs ++ [F2]).length = fs.length + 1 := by simp
    obtain ⟨N, hN⟩ : ∃ N, fs ++ [F2] = N := ⟨_, rfl⟩
    rw [hN] at HO8 HT hNl
    have HNl := Hd.mk hNl
    clear hN hNl
    obtain ⟨A8, c8, rfl, hc8, -⟩ := HO8.out.reads
    refine wpTail_step (fun K hK => ?_)
    go_simp
    refine hK _ _ (fun h => absurd h (by decide)) ?_
    clear hK K
    refine wpTail_step (fun K hK => ?_)
    go_simp
    refine hK _ _ (fun h => absurd h (by decide)) ?_
    clear hK K p0 p1 fz
    refine wpTail_nil ?_
    have hset : w8.grownBy (w8.setCell ⟨gp, 1, none⟩ (.slice A8 N.length c8)) (some gp) := set_grown w8 ⟨gp, 1, none⟩ _
    go_wp2_with fail
    go_roundg n
    case measure => omega
    case rel => exact ⟨_, N, k2, bad2, HXK.out.2, ⟨HB8.out.grown hset (fun e => HGP.out.2.1 e.symm)⟩, ⟨HR8.out.grown hset HGP.out.2.2⟩, ⟨gb_set HG8.out (by have := HGP.out.1; have := HGE.out; omega) _ _⟩, ⟨HO8.out.grown hset HP8.out (by decide)⟩, ⟨HP8.out.set_ 1 _⟩, HT, ⟨by have := HL.out; have := HNl.out; have := HXK.out; omega⟩, ⟨by have := HN.out; have := HXK.out; omega⟩⟩
  ·have HT : Hd (Y = (fs, kk, true)) := ⟨by rw [← HY.out]; rfl⟩
   have HB5 := HB
   have HR5 := HR
   have HP5 := HP
   have HO5 := HO
   have HG5 := HG
   obtain ⟨p0, p1⟩ := HP5.out.two'
   obtain ⟨r0, r1⟩ := HR5.out.two'
   have fz := fun i => HR5.out.froz i
   go_wp2_with fail
   refine bodyPost_ret (res_pro rfl _ _ gr _ rfl ((HR5.out.set_ 0 _).set_ 1 _) rfl) rfl ?_
   rw [HE.out.symm, HT.out]
   have hset : wr.grownBy ((wr.setCell ⟨gr, 0, none⟩ (.bool neg)).setCell ⟨gr, 1, none⟩ (.slice Av fs.length cv)) (some gr) := (set_grown wr ⟨gr, 0, none⟩ _).set 1 _
   exact ⟨_, rfl, by rw [HGE.out]; exact HO5.out.grown hset HR5.out (by decide), HB5.out.grown hset (fun e => HGR.out.2 e.symm), gb_set (gb_set HG5.out HGR.out.1 _ _) HGR.out.1 _ _⟩
theorem facsF_le {s : ByteArray} : ∀ (n : Nat) (fs : List FacD) (k : Nat) (bad : Bool), k ≤ s.size → k ≤ (facsF s n fs k bad).2.1 ∧ (facsF s n fs k bad).2.1 ≤ s.size
 | 0, _, _, _, h => ⟨Nat.le_refl _, h⟩
 | n + 1, fs, k, bad, h => by
   unfold facsF
   have h1 := eatK_le (c := 42) h
   have h2 := eatK_ge s k 42
   split
   ·exact ⟨Nat.le_refl _, h⟩
   ·split
    ·have h3 := factorD_le (bad := bad) h1
     have h4 := facsF_le n (fs ++ [(factorD s (eatK s k 42) bad).1]) _ (factorD s (eatK s k 42) bad).2.2 h3.2
     exact ⟨Nat.le_trans h2 (Nat.le_trans h3.1 h4.1), h4.2⟩
    ·exact ⟨h2, h1⟩
theorem productD_le {s : ByteArray} {k : Nat} {bad neg : Bool} (h : k ≤ s.size) : k ≤ (productD s k bad neg).2.1 ∧ (productD s k bad neg).2.1 ≤ s.size := by
 unfold productD
 have h1 := factorD_le (bad := bad) h
 have h2 := facsF_le (s.size + 1) [(factorD s k bad).1] _ (factorD s k bad).2.2 h1.2
 exact ⟨Nat.le_trans h1.1 h2.1, h2.2⟩
def sumF (s : ByteArray) : Nat → List ProdD → Nat → Bool → List ProdD × Nat × Bool
 | 0, l, k, bad => (l, k, bad)
 | n + 1, l, k, bad =>
   if bad = true then (l, k, bad) else
   if bt s (skipD s k) = 0 then (l, skipD s k, bad) else
   if eatB s (skipD s k) 43 = true then
    let y := productD s (eatK s (skipD s k) 43) bad false
    sumF s n (l ++ [y.1]) y.2.1 y.2.2
   else
    let k2 := eatK s (skipD s k) 43
    if eatB s k2 45 = true then
     let y := productD s (eatK s k2 45) bad true
     sumF s n (l ++ [y.1]) y.2.1 y.2.2
    else (l, eatK s k2 45, true)
def sumD (s : ByteArray) : List ProdD × Bool :=
 let y := productD s (eatK s 0 45) false (eatB s 0 45)
 let z := sumF s (s.size + 1) [y.1] y.2.1 y.2.2
 (z.1, z.2.2 || decide (z.2.1 < s.size))
inductive PCs (w : World) (base : Nat) : List ProdD → List Value → Prop
 | nil : PCs w base [] []
 | cons {p : ProdD} {v : Value} {ps : List ProdD} {cs : List Value} (h : OwnF w base v p.fs) (hs : PCs w base ps cs) : PCs w base (p :: ps) (.bool p.neg :: v :: cs)
theorem PCs.up {w w' : World} {base : Nat} {ps : List ProdD} {cs : List Value} (h : PCs w base ps cs) (hb : Below w.heap.size w w') : PCs w' base ps cs := by
 induction h with
 | nil => exact .nil
 | cons h _ ih => exact .cons (h.up hb) ih
theorem PCs.grown {w w' : World} {base g : Nat} {t : TypeId} {bs : Array Value} {ps : List ProdD} {cs : List Value} (h : PCs w base ps cs) (hg : w.grownBy w' (some g)) (hk : Bk w g t bs) (ht : t ≠ 292) : PCs w' base ps cs := by
 induction h with
 | nil => exact .nil
 | cons h _ ih => exact .cons (h.grown hg hk ht) ih
theorem PCs.app {w : World} {base : Nat} {ps qs : List ProdD} {cs ds : List Value} (h : PCs w base ps cs) (h' : PCs w base qs ds) : PCs w base (ps ++ qs) (cs ++ ds) := by
 induction h with
 | nil => exact h'
 | cons h _ ih => exact .cons h ih
theorem PCs.len {w : World} {base : Nat} {ps : List ProdD} {cs : List Value} (h : PCs w base ps cs) : cs.length = ps.length * 2 := by
 induction h with
 | nil => rfl
 | cons _ _ ih => simp only [List.length_cons, ih]; omega
theorem PCs.get {w : World} {base : Nat} {ps : List ProdD} {cs : List Value} (h : PCs w base ps cs) : ∀ {j : Nat} {p : ProdD}, ps[j]? = some p → ∃ v, cs[j * 2]? = some (.bool p.neg) ∧ cs[j * 2 + 1]? = some v ∧ OwnF w base v p.fs := by
 induction h with
 | nil => intro j p hj; simp at hj
 | @cons p v ps cs h _ ih =>
   intro j q hj
   cases j with
   | zero =>
     simp only [List.getElem?_cons_zero, Option.some.injEq] at hj
     subst hj
     exact ⟨v, rfl, rfl, h⟩
   | succ j =>
     obtain ⟨u, h1, h2, h3⟩ := ih (by simpa using hj)
     refine ⟨u, ?_, ?_, h3⟩
     ·rw [show (j + 1) * 2 = j * 2 + 1 + 1 by omega]; simpa using h1
     ·rw [show (j + 1) * 2 + 1 = j * 2 + 1 + 1 + 1 by omega]; simpa using h2
def OwnP (w : World) (base : Nat) (V : Value) (ps : List ProdD) : Prop := ∃ cs, w.ownsRow base 251 2 V ps.length cs ∧ PCs w base ps cs
theorem OwnP.up {w w' : World} {base : Nat} {v : Value} {ps : List ProdD} (h : OwnP w base v ps) (hb : Below w.heap.size w w') : OwnP w' base v ps := let ⟨cs, h1, h2⟩ := h; ⟨cs, own_below h1 hb, h2.up hb⟩
theorem OwnP.grown {w w' : World} {base g : Nat} {v : Value} {ps : List ProdD} {t : TypeId} {bs : Array Value} (h : OwnP w base v ps) (hg : w.grownBy w' (some g)) (hk : Bk w g t bs) (ht : t ≠ 292) (ht2 : t ≠ 251) : OwnP w' base v ps := by
 obtain ⟨cs, h1, h2⟩ := h
 refine ⟨cs, World.ownsRow.kept h1 hg ?_, h2.grown hg hk ht⟩
 cases e : v.ownBlock with
 | none => exact .inl rfl
 | some b =>
   refine .inr fun e2 => ?_
   obtain ⟨⟨ds, hk2⟩, _⟩ := own_bk h1 e
   injection e2 with e2
   exact Bk.ne_ hk hk2 ht2 e2.symm
theorem OwnP.reads {w : World} {base : Nat} {v : Value} {ps : List ProdD} (h : OwnP w base v ps) : ∃ A c, v = .slice A ps.length c ∧ ps.length ≤ c ∧ c ≤ maxLen := by
 obtain ⟨_, h, _⟩ := h
 rcases h.2 with ⟨rfl, h0⟩ | ⟨g, cap, cur, rfl, _, _, h4, h5, _⟩
 ·exact ⟨none, 0, by rw [h0], by omega, by unfold maxLen; omega⟩
 ·exact ⟨_, cap, rfl, h4, h5⟩
theorem OwnF.low {w : World} {base base' : Nat} {v : Value} {fs : List FacD} (h : OwnF w base v fs) (hb : base' ≤ base) : OwnF w base' v fs := by
 obtain ⟨h1, h2⟩ := h
 refine ⟨h1, ?_⟩
 rcases h2 with h2 | ⟨g, cap, cur, h3, h4, h5⟩
 ·exact .inl h2
 ·exact .inr ⟨g, cap, cur, h3, Nat.le_trans hb h4, h5⟩
theorem OwnP.one {w : World} {base : Nat} {p : ProdD} {v : Value} (h : OwnF w base v p.fs) (hb : base ≤ w.heap.size) : OwnP (w.alloc (.cells #[.bool p.neg, v] 251)) base (.slice (some ⟨w.heap.size, 0, none⟩) 1 1) [p] :=
 ⟨_, World.ownsRow_lit (e := 251) (size := 2) w #[.bool p.neg, v] 1 hb (by unfold maxLen; omega) rfl, .cons (h.up ((Below.refl _ _).alloc (Nat.le_refl _) _)) .nil⟩
theorem Tryz.slPro : Tryz.prog.underlying 245 = some (.slice 251) := by kernel_rfl
theorem Tryz.infPro : (Tryz.prog.info? 251).map (fun i => (i.zero, i.size, i.bytes)) = some (some (.agg #[.bool false, .slice none 0 0]), 2, 32) := by kernel_rfl
theorem OwnF.grownR {w w' : World} {base : Nat} {v : Value} {fs : List FacD} {row : Option Nat} (h : OwnF w base v fs) (hg : w.grownBy w' row) (hr : ∀ b, row = some b → ∃ t bs, Bk w b t bs ∧ t ≠ 292) : OwnF w' base v fs := by
 cases row with
 | none =>
   refine World.ownsRow.kept h hg ?_
   cases e : v.ownBlock with
   | none => exact .inl rfl
   | some b => exact .inr (by simp)
 | some b =>
   obtain ⟨t, bs, hk, ht⟩ := hr b rfl
   exact h.grown hg hk ht
theorem PCs.grownR {w w' : World} {base : Nat} {ps : List ProdD} {cs : List Value} {row : Option Nat} (h : PCs w base ps cs) (hg : w.grownBy w' row) (hr : ∀ b, row = some b → ∃ t bs, Bk w b t bs ∧ t ≠ 292) : PCs w' base ps cs := by
 induction h with
 | nil => exact .nil
 | cons h _ ih => exact .cons (h.grownR hg hr) ih
end Go.Proofs.YtgjkgkgieeoalaaGreat
