/- Parts of the proof, joined: each theorem says what it shows. -/
import Derived.Test.YtgjkgkgieeoalaaGreatC30
import Derived.Test.YtgjkgkgieeoalaaGreatC24
import Derived.Test.YtgjkgkgieeoalaaGreatC26
import Derived.ChangeKeysEq
set_option linter.unusedVariables false
set_option linter.unusedSimpArgs false
set_option maxHeartbeats 24000000
set_option maxRecDepth 100000
namespace Go.Proofs.YtgjkgkgieeoalaaGreat
open Go.ChangeShapes Go.WideShapes Go.RowKit
theorem Tryz.fldSmall_14 : fieldsAt (Tryz.prog.underlying 83) = [(56, 0), (57, 1)] := by kernel_rfl
theorem Tryz.cuSmall_14 : Tryz.prog.cellsOf 83 = 2 := by kernel_rfl
theorem Tryz.cuSlI8_14 : Tryz.prog.cellsOf 56 = 1 := by kernel_rfl
theorem Tryz.cuSlM3_14 : Tryz.prog.cellsOf 57 = 1 := by kernel_rfl
theorem Tryz.arS3_14 : Tryz.prog.underlying 84 = some (.array 3 83) := by kernel_rfl
theorem Tryz.cuS3_14 : Tryz.prog.cellsOf 84 = 6 := by kernel_rfl
section
variable {H : Type} {enc : TypeId × Value → H} {w : World} {base : Nat} {spare : Nat → Bool} {held : Bool} {fuel : Nat} {cs : List Value} {x : DataW H × List MemPlace}
theorem rd_small_14 (h : DataW.trod enc Tryz.prog w base spare held fuel 83 cs = some x) : ∃ A ns c B ms d, cs = [.slice A ns.length c, .slice B ms.length d] ∧ RSm w A c B d ns ms := by
 obtain ⟨f, g, e, t1, o1, t2, o2⟩ := two_of Tryz.fldSmall_14
 obtain ⟨y0, y1, n, _, hl, h0, h1⟩ := trod_struct2 e h
 rw [Tryz.cuSmall_14] at hl
 rw [t1, o1, Tryz.cuSlI8_14] at h0
 rw [t2, o2, Tryz.cuSlM3_14] at h1
 match cs, hl with
 | [v0, v1], _ =>
   simp only [List.drop_zero, List.drop_succ_cons, List.take_succ_cons, List.take_zero] at h0 h1
   obtain ⟨A, ns, c, e0, l1, _, r1, b1⟩ := rd_row Tryz.slI8 Tryz.undI8 Tryz.cuI8 h0
   obtain ⟨B, ms, d, e1, l2, r2, b2⟩ := rd_m3s h1
   simp only [List.cons.injEq, and_true] at e0 e1
   subst e0 e1
   exact ⟨A, ns, c, B, ms, d, rfl, r1, r2, l1, l2, fun n hn => bounds_i8 (b1 n hn), b2⟩
theorem rd_small3_14 (h : DataW.trod enc Tryz.prog w base spare held fuel 84 cs = some x) : ∃ A ns c B ms d A' ns' c' B' ms' d' A'' ns'' c'' B'' ms'' d'', cs = [.slice A ns.length c, .slice B ms.length d, .slice A' ns'.length c', .slice B' ms'.length d', .slice A'' ns''.length c'', .slice B'' ms''.length d''] ∧ RSm w A c B d ns ms ∧ RSm w A' c' B' d' ns' ms' ∧ RSm w A'' c'' B'' d'' ns'' ms'' := by
 obtain ⟨xs, n, _, _, hl, hx, hi⟩ := DataW.trod_array Tryz.arS3_14 h
 rw [Tryz.cuS3_14] at hl
 have get : ∀ i, i < 3 → ∃ A ns c B ms d, (cs.drop (i * 2)).take 2 = [.slice A ns.length c, .slice B ms.length d] ∧ RSm w A c B d ns ms := fun i h4 => by
  have h1 := hi i h4
  rw [Tryz.cuSmall_14, List.getElem?_eq_getElem (by omega)] at h1
  exact rd_small_14 h1
 match cs, hl, get with
 | [v0, v1, v2, v3, v4, v5], _, get =>
   obtain ⟨A, ns, c, B, ms, d, e0, r0⟩ := get 0 (by omega)
   obtain ⟨A', ns', c', B', ms', d', e1, r1⟩ := get 1 (by omega)
   obtain ⟨A'', ns'', c'', B'', ms'', d'', e2, r2⟩ := get 2 (by omega)
   simp only [Nat.zero_mul, Nat.one_mul, Nat.reduceMul, List.drop_zero, List.drop_succ_cons, List.take_succ_cons, List.take_zero, List.cons.injEq, and_true] at e0 e1 e2
   obtain ⟨rfl, rfl⟩ := e0
   obtain ⟨rfl, rfl⟩ := e1
   obtain ⟨rfl, rfl⟩ := e2
   exact ⟨A, ns, c, B, ms, d, A', ns', c', B', ms', d', A'', ns'', c'', B'', ms'', d'', rfl, r0, r1, r2⟩
end
end Go.Proofs.YtgjkgkgieeoalaaGreat
namespace Go.Proofs.YtgjkgkgieeoalaaGreat
open Go.RowKit Go.PlainAid
theorem facsF_le {s : ByteArray} : ∀ (n : Nat) (fs : List FacD) (k : Nat) (bad : Bool), k ≤ s.size → k ≤ (facsF s n fs k bad).2.1 ∧ (facsF s n fs k bad).2.1 ≤ s.size
 | 0, _, _, _, h => ⟨Nat.le_refl _, h⟩
 | n + 1, fs, k, bad, h => by
   unfold facsF
   have h1 := eatK_le (c := 42) h
   have h2 := eatK_ge s k 42
   split
   ·exact ⟨Nat.le_refl _, h⟩
   ·split
    ·have h3 := factorD_le (bad := bad) h1
     have h4 := facsF_le n (fs ++ [(factorD s (eatK s k 42) bad).1]) _ (factorD s (eatK s k 42) bad).2.2 h3.2
     exact ⟨Nat.le_trans h2 (Nat.le_trans h3.1 h4.1), h4.2⟩
    ·exact ⟨h2, h1⟩
theorem productD_le {s : ByteArray} {k : Nat} {bad neg : Bool} (h : k ≤ s.size) : k ≤ (productD s k bad neg).2.1 ∧ (productD s k bad neg).2.1 ≤ s.size := by
 unfold productD
 have h1 := factorD_le (bad := bad) h
 have h2 := facsF_le (s.size + 1) [(factorD s k bad).1] _ (factorD s k bad).2.2 h1.2
 exact ⟨Nat.le_trans h1.1 h2.1, h2.2⟩
def sumF (s : ByteArray) : Nat → List ProdD → Nat → Bool → List ProdD × Nat × Bool
 | 0, l, k, bad => (l, k, bad)
 | n + 1, l, k, bad =>
   if bad = true then (l, k, bad) else
   if bt s (skipD s k) = 0 then (l, skipD s k, bad) else
   if eatB s (skipD s k) 43 = true then
    let y := productD s (eatK s (skipD s k) 43) bad false
    sumF s n (l ++ [y.1]) y.2.1 y.2.2
   else
    let k2 := eatK s (skipD s k) 43
    if eatB s k2 45 = true then
     let y := productD s (eatK s k2 45) bad true
     sumF s n (l ++ [y.1]) y.2.1 y.2.2
    else (l, eatK s k2 45, true)
def sumD (s : ByteArray) : List ProdD × Bool :=
 let y := productD s (eatK s 0 45) false (eatB s 0 45)
 let z := sumF s (s.size + 1) [y.1] y.2.1 y.2.2
 (z.1, z.2.2 || decide (z.2.1 < s.size))
inductive PCs (w : World) (base : Nat) : List ProdD → List Value → Prop
 | nil : PCs w base [] []
 | cons {p : ProdD} {v : Value} {ps : List ProdD} {cs : List Value} (h : OwnF w base v p.fs) (hs : PCs w base ps cs) : PCs w base (p :: ps) (.bool p.neg :: v :: cs)
theorem PCs.up {w w' : World} {base : Nat} {ps : List ProdD} {cs : List Value} (h : PCs w base ps cs) (hb : Below w.heap.size w w') : PCs w' base ps cs := by
 induction h with
 | nil => exact .nil
 | cons h _ ih => exact .cons (h.up hb) ih
theorem PCs.grown {w w' : World} {base g : Nat} {t : TypeId} {bs : Array Value} {ps : List ProdD} {cs : List Value} (h : PCs w base ps cs) (hg : w.grownBy w' (some g)) (hk : Bk w g t bs) (ht : t ≠ 292) : PCs w' base ps cs := by
 induction h with
 | nil => exact .nil
 | cons h _ ih => exact .cons (h.grown hg hk ht) ih
theorem PCs.app {w : World} {base : Nat} {ps qs : List ProdD} {cs ds : List Value} (h : PCs w base ps cs) (h' : PCs w base qs ds) : PCs w base (ps ++ qs) (cs ++ ds) := by
 induction h with
 | nil => exact h'
 | cons h _ ih => exact .cons h ih
theorem PCs.len {w : World} {base : Nat} {ps : List ProdD} {cs : List Value} (h : PCs w base ps cs) : cs.length = ps.length * 2 := by
 induction h with
 | nil => rfl
 | cons _ _ ih => simp only [List.length_cons, ih]; omega
theorem PCs.get {w : World} {base : Nat} {ps : List ProdD} {cs : List Value} (h : PCs w base ps cs) : ∀ {j : Nat} {p : ProdD}, ps[j]? = some p → ∃ v, cs[j * 2]? = some (.bool p.neg) ∧ cs[j * 2 + 1]? = some v ∧ OwnF w base v p.fs := by
 induction h with
 | nil => intro j p hj; simp at hj
 | @cons p v ps cs h _ ih =>
   intro j q hj
   cases j with
   | zero =>
     simp only [List.getElem?_cons_zero, Option.some.injEq] at hj
     subst hj
     exact ⟨v, rfl, rfl, h⟩
   | succ j =>
     obtain ⟨u, h1, h2, h3⟩ := ih (by simpa using hj)
     refine ⟨u, ?_, ?_, h3⟩
     ·rw [show (j + 1) * 2 = j * 2 + 1 + 1 by omega]; simpa using h1
     ·rw [show (j + 1) * 2 + 1 = j * 2 + 1 + 1 + 1 by omega]; simpa using h2
def OwnP (w : World) (base : Nat) (V : Value) (ps : List ProdD) : Prop := ∃ cs, w.ownsRow base 251 2 V ps.length cs ∧ PCs w base ps cs
theorem OwnP.up {w w' : World} {base : Nat} {v : Value} {ps : List ProdD} (h : OwnP w base v ps) (hb : Below w.heap.size w w') : OwnP w' base v ps := let ⟨cs, h1, h2⟩ := h; ⟨cs, own_below h1 hb, h2.up hb⟩
theorem OwnP.grown {w w' : World} {base g : Nat} {v : Value} {ps : List ProdD} {t : TypeId} {bs : Array Value} (h : OwnP w base v ps) (hg : w.grownBy w' (some g)) (hk : Bk w g t bs) (ht : t ≠ 292) (ht2 : t ≠ 251) : OwnP w' base v ps := by
 obtain ⟨cs, h1, h2⟩ := h
 refine ⟨cs, World.ownsRow.kept h1 hg ?_, h2.grown hg hk ht⟩
 cases e : v.ownBlock with
 | none => exact .inl rfl
 | some b =>
   refine .inr fun e2 => ?_
   obtain ⟨⟨ds, hk2⟩, _⟩ := own_bk h1 e
   injection e2 with e2
   exact Bk.ne_ hk hk2 ht2 e2.symm
theorem OwnP.reads {w : World} {base : Nat} {v : Value} {ps : List ProdD} (h : OwnP w base v ps) : ∃ A c, v = .slice A ps.length c ∧ ps.length ≤ c ∧ c ≤ maxLen := by
 obtain ⟨_, h, _⟩ := h
 rcases h.2 with ⟨rfl, h0⟩ | ⟨g, cap, cur, rfl, _, _, h4, h5, _⟩
 ·exact ⟨none, 0, by rw [h0], by omega, by unfold maxLen; omega⟩
 ·exact ⟨_, cap, rfl, h4, h5⟩
theorem OwnF.low {w : World} {base base' : Nat} {v : Value} {fs : List FacD} (h : OwnF w base v fs) (hb : base' ≤ base) : OwnF w base' v fs := by
 obtain ⟨h1, h2⟩ := h
 refine ⟨h1, ?_⟩
 rcases h2 with h2 | ⟨g, cap, cur, h3, h4, h5⟩
 ·exact .inl h2
 ·exact .inr ⟨g, cap, cur, h3, Nat.le_trans hb h4, h5⟩
theorem OwnP.one {w : World} {base : Nat} {p : ProdD} {v : Value} (h : OwnF w base v p.fs) (hb : base ≤ w.heap.size) : OwnP (w.alloc (.cells #[.bool p.neg, v] 251)) base (.slice (some ⟨w.heap.size, 0, none⟩) 1 1) [p] :=
 ⟨_, World.ownsRow_lit (e := 251) (size := 2) w #[.bool p.neg, v] 1 hb (by unfold maxLen; omega) rfl, .cons (h.up ((Below.refl _ _).alloc (Nat.le_refl _) _)) .nil⟩
theorem Tryz.slPro : Tryz.prog.underlying 245 = some (.slice 251) := by kernel_rfl
theorem Tryz.infPro : (Tryz.prog.info? 251).map (fun i => (i.zero, i.size, i.bytes)) = some (some (.agg #[.bool false, .slice none 0 0]), 2, 32) := by kernel_rfl
theorem OwnF.grownR {w w' : World} {base : Nat} {v : Value} {fs : List FacD} {row : Option Nat} (h : OwnF w base v fs) (hg : w.grownBy w' row) (hr : ∀ b, row = some b → ∃ t bs, Bk w b t bs ∧ t ≠ 292) : OwnF w' base v fs := by
 cases row with
 | none =>
   refine World.ownsRow.kept h hg ?_
   cases e : v.ownBlock with
   | none => exact .inl rfl
   | some b => exact .inr (by simp)
 | some b =>
   obtain ⟨t, bs, hk, ht⟩ := hr b rfl
   exact h.grown hg hk ht
theorem PCs.grownR {w w' : World} {base : Nat} {ps : List ProdD} {cs : List Value} {row : Option Nat} (h : PCs w base ps cs) (hg : w.grownBy w' row) (hr : ∀ b, row = some b → ∃ t bs, Bk w b t bs ∧ t ≠ 292) : PCs w' base ps cs := by
 induction h with
 | nil => exact .nil
 | cons h _ ih => exact .cons (h.grownR hg hr) ih
theorem text_sum (s : ByteArray) (g : Nat) (w : World) (hk : Bk w g 244 (tx s 0 false)) (hs : s.size ≤ 1000000) :
    Calls Tryz.prog 222 #[.pointer (some ⟨g, 0, none⟩)] w fun e w' => ∃ v K, e = .returned v ∧ OwnP w' w.heap.size v (sumD s).1 ∧ Bk w' g 244 (tx s K (sumD s).2) ∧ w.grownBy w' (some g) := by
 obtain ⟨E, hE⟩ : ∃ E, sumD s = E := ⟨_, rfl⟩
 rw [hE]
 have HE := Hd.mk hE
 clear hE
 unfold sumD at HE
 dsimp only at HE
 have hsm : s.size ≤ maxLen := by unfold maxLen; omega
 have CE := Hd.mk (text_eat s 0 g false 45 w hk hsm (Nat.zero_le _))
 have h1 := eatK_le (s := s) (c := 45) (Nat.zero_le _)
 obtain ⟨k1, hk1⟩ : ∃ k1, eatK s 0 45 = k1 := ⟨_, rfl⟩
 obtain ⟨B, hB⟩ : ∃ B, eatB s 0 45 = B := ⟨_, rfl⟩
 rw [hk1, hB] at CE HE
 rw [hk1] at h1
 have hY2 := productD_le (bad := false) (neg := B) h1
 have CP := Hd.mk (fun W (hW : Bk W g 244 (tx s k1 false)) => text_product s k1 g false B W hW hs h1)
 obtain ⟨Y, hY⟩ : ∃ Y, productD s k1 false B = Y := ⟨_, rfl⟩
 rw [hY] at CP HE hY2
 obtain ⟨P1, k2, bad2⟩ := Y
 dsimp only at CP HE hY2
 have HY2 := Hd.mk hY2
 have HGL := Hd.mk hk.lt
 clear hk hk1 hB hY hY2
 go_enter Tryz.func222, Tryz.ntmps222
 go_wp2_with fail
 refine CE.out.mono ?_
 rintro e w2 ⟨rfl, hb2, hg2⟩
 have HB2 := Hd.mk hb2
 have HG2 := Hd.mk hg2
 clear hb2 hg2 CE
 go_wp2_with fail
 refine (CP.out _ HB2.out).mono ?_
 rintro e w3 ⟨v, rfl, ho, hb3, hg3⟩
 have HO3 := Hd.mk (ho.low HG2.out.size)
 have HB3 := Hd.mk hb3
 have HG3 := Hd.mk (gb_trans HG2.out hg3)
 clear ho hb3 hg3 CP HB2 HG2
 go_upto_region 2 with (fail)
 obtain ⟨Z, hZ⟩ : ∃ Z, sumF s (s.size + 1) [P1] k2 bad2 = Z := ⟨_, rfl⟩
 rw [hZ] at HE
 have HZ := Hd.mk hZ
 clear hZ
 have HO4 := Hd.mk (OwnP.one (p := P1) HO3.out HG3.out.size)
 have HB4 := Hd.mk (HB3.out.al (.cells #[.bool P1.neg, v] 251))
 have HG4 := Hd.mk (gb_trans HG3.out (gb_of ((Below.refl w3.heap.size w3).alloc (Nat.le_refl _) (.cells #[.bool P1.neg, v] 251))))
 generalize w3.alloc (.cells #[.bool P1.neg, v] 251) = w4 at HO4 HB4 HG4 ⊢
 generalize w3.heap.size = g3 at HO4 ⊢
 clear HO3 HB3 HG3
 go_loopg [3] (s.size + 1) (fun n v3 wr => ∃ (ps : List ProdD) (kk : Nat) (bb : Bool), kk ≤ s.size ∧ Hd (Bk wr g 244 (tx s kk bb)) ∧ Hd (w.grownBy wr (some g)) ∧ Hd (OwnP wr w.heap.size v3 ps) ∧ Hd (sumF s n ps kk bb = Z) ∧ Hd (ps.length + (s.size - kk) ≤ s.size + 1) ∧ Hd (bb = false → s.size - kk < n))
 case atStart => exact ⟨[P1], k2, bad2, HY2.out.2, HB4, HG4, HO4, HZ, ⟨by simp; omega⟩, ⟨fun _ => by omega⟩⟩
 case round =>
  clear HB4 HG4 HO4 HZ
  obtain ⟨ps, kk, bb, hkk, HB, HG, HO, HZ, HL, HN⟩ := hrel
  obtain ⟨Av, cv, rfl, hcv, hcm⟩ := HO.out.reads
  obtain ⟨q0, q1, q2⟩ := HB.out.three
  cases bb
  ·obtain ⟨n, rfl⟩ : ∃ n, gk = n + 1 := ⟨gk - 1, by have := HN.out rfl; omega⟩
   have HNN : Hd (s.size - kk < n + 1) := ⟨HN.out rfl⟩
   have CX := Hd.mk (text_next s kk g false wr HB.out hsm hkk)
   have hk3 := skipD_le hkk
   have hk3g : kk ≤ skipD s kk := (skipF_ge s (s.size - kk) kk).1
   have HZ1 := HZ.out
   unfold sumF at HZ1
   rw [if_neg (by simp)] at HZ1
   dsimp only at HZ1
   obtain ⟨k3, hkk3⟩ : ∃ k3, skipD s kk = k3 := ⟨_, rfl⟩
   rw [hkk3] at CX hk3 hk3g HZ1
   obtain ⟨c, hc⟩ : ∃ c, bt s k3 = c := ⟨_, rfl⟩
   rw [hc] at CX HZ1
   have HZ1 := Hd.mk HZ1
   clear hkk3 hc
   by_cases hc0 : c = 0
   ·have e0 : (c != 0) = false := by rw [hc0]; rfl
    have HT : Hd (Z = (ps, k3, false)) := ⟨by rw [← HZ1.out]; exact if_pos hc0⟩
    clear hc0
    go_wp2_with fail
    refine CX.out.mono ?_
    rintro e w5 ⟨rfl, hb5, hg5⟩
    have HB5 := Hd.mk hb5
    have HG5 := Hd.mk (gb_trans HG.out hg5)
    have HO5 := Hd.mk (HO.out.grown hg5 HB.out (by decide) (by decide))
    obtain ⟨p0, p1, p2⟩ := hb5.three
    clear hb5 hg5 CX q0 q1 q2 HB HG HO
    by_cases hlt : k3 < s.size
    ·have i1 : (k3 : Int) < s.size := by omega
     have HF : Hd (E = (ps, true)) := ⟨by rw [← HE.out, HT.out]; simp [hlt]⟩
     have fz := fun i => HB5.out.froz i
     clear hlt
     go_wp2_with fail
     go_quiet (fail)
     go_wp2_with fail
     go_ret
     rw [HF.out]
     exact ⟨_, k3, rfl, HO5.out.up (Below.dn (Below.refl _ _) _) |>.grown (set_grown _ ⟨g, 2, none⟩ _) (HB5.out.dn _) (by decide) (by decide), (HB5.out.dn _).set_ 2 _, (gb_dn HG5.out _).set 2 _⟩
    ·have i1 : ¬ (k3 : Int) < s.size := by omega
     have HF : Hd (E = (ps, false)) := ⟨by rw [← HE.out, HT.out]; simp [hlt]⟩
     clear hlt
     go_wp2_with fail
     go_quiet (fail)
     go_wp2_with fail
     go_ret
     rw [HF.out]
     exact ⟨_, k3, rfl, HO5.out.up (Below.dn (Below.refl _ _) _), HB5.out.dn _, gb_dn HG5.out _⟩
   ·have e0 : (c != 0) = true := by rw [bne_iff_ne]; exact hc0
    have HZ2 := Hd.mk (HZ1.out.symm.trans (if_neg hc0)).symm
    clear hc0 HZ1
    go_wp2_with fail
    refine CX.out.mono ?_
    rintro e w5 ⟨rfl, hb5, hg5⟩
    have HB5 := Hd.mk hb5
    have HG5 := Hd.mk (gb_trans HG.out hg5)
    have HO5 := Hd.mk (HO.out.grown hg5 HB.out (by decide) (by decide))
    clear hb5 hg5 CX q0 q1 q2 HB HG HO
    have CE := Hd.mk (text_eat s k3 g false 43 w5 HB5.out hsm hk3)
    have h7 := eatK_le (c := 43) hk3
    have h7g := eatK_ge s k3 43
    cases he : eatB s k3 43
    ·have HZ3' := HZ2.out
     rw [if_neg (by rw [he]; simp)] at HZ3'
     rw [he] at CE
     obtain ⟨k7, hk7⟩ : ∃ k7, eatK s k3 43 = k7 := ⟨_, rfl⟩
     rw [hk7] at CE h7 h7g HZ3'
     have HZ4 := Hd.mk HZ3'
     clear he hk7 HZ3'
     go_wp2_with fail
     refine CE.out.mono ?_
     rintro e w7 ⟨rfl, hb7, hg7⟩
     have HB6 := Hd.mk hb7
     have HG6 := Hd.mk (gb_trans HG5.out hg7)
     have HO6 := Hd.mk (HO5.out.grown hg7 HB5.out (by decide) (by decide))
     clear hb7 hg7 CE HB5 HG5 HO5 HZ2
     have CE := Hd.mk (text_eat s k7 g false 45 w7 HB6.out hsm h7)
     have h6 := h7
     have h7 := eatK_le (c := 45) h6
     have h9g := eatK_ge s k7 45
     cases he : eatB s k7 45
     ·have HT : Hd (Z = (ps, eatK s k7 45, true)) := ⟨by rw [← HZ4.out, if_neg (by rw [he]; simp)]⟩
      rw [he] at CE
      clear he
      go_wp2_with fail
      refine CE.out.mono ?_
      rintro e wq ⟨rfl, hb7, hg7⟩
      have HB7 := Hd.mk hb7
      have HG7 := Hd.mk (gb_trans HG6.out hg7)
      have HO7 := Hd.mk (HO6.out.grown hg7 HB6.out (by decide) (by decide))
      have fz := fun i => HB7.out.froz i
      obtain ⟨p0, p1, p2⟩ := HB7.out.three
      obtain ⟨kz, hkz⟩ : ∃ kz, eatK s k7 45 = kz := ⟨_, rfl⟩
      rw [hkz] at HT HB7 h7 h9g p1
      clear hb7 hg7 CE hkz
      go_wp2_with fail
      go_roundg n
      case measure => omega
      case rel => exact ⟨ps, kz, true, h7, ⟨HB7.out.set_ 2 _⟩, ⟨HG7.out.set 2 _⟩, ⟨HO7.out.grown (set_grown _ ⟨g, 2, none⟩ _) HB7.out (by decide) (by decide)⟩, ⟨by rw [HT.out]; cases n <;> rfl⟩, ⟨by have := HL.out; omega⟩, ⟨fun h => by cases h⟩⟩
     ·have hgt := eatK_gt he
      have HZ3 := HZ4.out
      rw [if_pos he] at HZ3
      rw [he] at CE
      obtain ⟨k9, hk9⟩ : ∃ k9, eatK s k7 45 = k9 := ⟨_, rfl⟩
      rw [hk9] at CE h7 h9g HZ3 hgt
      clear he hk9
      go_wp2_with fail
      refine CE.out.mono ?_
      rintro e wq ⟨rfl, hb7, hg7⟩
      have HB7 := Hd.mk hb7
      have HG7 := Hd.mk (gb_trans HG6.out hg7)
      have HO7 := Hd.mk (HO6.out.grown hg7 HB6.out (by decide) (by decide))
      clear hb7 hg7 CE HB6 HG6 HO6 HZ4
      have CP := Hd.mk (text_product s k9 g false true wq HB7.out hs h7)
      have hY2 := productD_le (bad := false) (neg := true) h7
      obtain ⟨Y, hY⟩ : ∃ Y, productD s k9 false true = Y := ⟨_, rfl⟩
      rw [hY] at CP HZ3 hY2
      obtain ⟨P2, k8, bad8⟩ := Y
      dsimp only at CP HZ3 hY2
      have HYY := Hd.mk hY2
      clear hY hY2
      go_wp2_with fail
      refine CP.out.mono ?_
      rintro e w8 ⟨v8, rfl, ho8, hb8, hg8⟩
      have HOF := Hd.mk (ho8.low HG7.out.size)
      have HB8 := Hd.mk hb8
      have HG8 := Hd.mk (gb_trans HG7.out hg8)
      have HO8 := Hd.mk (HO7.out.grown hg8 HB7.out (by decide) (by decide))
      clear ho8 hb8 hg8 CP HB7 HG7 HO7
      obtain ⟨cs, hc1, hc2⟩ := (HO8.out.up ((Below.refl w8.heap.size w8).alloc (Nat.le_refl _) (.cells #[.bool P2.neg, v8] 251)))
      have HC1 := Hd.mk hc1
      have HC2 := Hd.mk hc2
      have RN := Hd.mk (Rd.new_ w8 #[.bool P2.neg, v8] 251 1 2 rfl)
      have H1 : Hd (∀ u ∈ [Value.bool P2.neg, v8], u.oneCell' = true) := ⟨fun u hu => by
       simp only [List.mem_cons, List.not_mem_nil, or_false] at hu
       obtain ⟨A9, c9, e9, _⟩ := HOF.out.reads
       rcases hu with rfl | rfl
       ·rfl
       ·rw [e9]; rfl⟩
      obtain ⟨i0, hi0, hz0, hz1, hz2⟩ := info_split Tryz.infPro
      have hpl : ps.length ≤ 1000001 := by have := HL.out; omega
      have HX1 : Hd (ps.length + 1 ≤ maxLen ∧ (ps.length + 1) * 32 ≤ 140737488355328) := ⟨by unfold maxLen; omega, by omega⟩
      clear hc1 hc2
      go_wp2_with (at_builtin; refine wpList_append_rd _ rfl _ _ 245 rfl w.heap.size 251 i0 _ 2 32 Tryz.slPro hi0 hz0 hz1 hz2 rfl (by decide) _ ps.length cs rfl HC1.out _ _ 1 1 _ rfl RN.out H1.out HX1.out.1 HX1.out.2 (by have := HG8.out.size; simp; omega) ?_)
      intro v9 w9 ho9 hg9 _
      have hrow : ∀ b, (Value.slice Av ps.length cv).ownBlock = some b → ∃ t bs, Bk (w8.alloc (.cells #[.bool P2.neg, v8] 251)) b t bs ∧ t ≠ 292 := fun b hb => by
       obtain ⟨⟨ds, hk⟩, _⟩ := own_bk HC1.out hb
       exact ⟨_, ds, hk, by decide⟩
      have hpr : ∀ b, (Value.slice Av ps.length cv).ownBlock = some b → w.heap.size ≤ b := fun b hb => (own_bk HC1.out hb).2
      have hne : some g ≠ (Value.slice Av ps.length cv).ownBlock := fun e => by
       obtain ⟨⟨ds, hk⟩, _⟩ := own_bk HC1.out e.symm
       exact Bk.ne_ (HB8.out.al _) hk (by decide) rfl
      have HO9 : Hd (OwnP w9 w.heap.size v9 (ps ++ [P2])) := ⟨_, by rw [List.length_append]; exact ho9, (HC2.out.grownR hg9 hrow).app (.cons ((HOF.out.up ((Below.refl w8.heap.size w8).alloc (Nat.le_refl _) _)).grownR hg9 hrow) .nil)⟩
      have HB9 := Hd.mk ((HB8.out.al (.cells #[.bool P2.neg, v8] 251)).grown hg9 hne)
      have HG9 := Hd.mk (gb_new (gb_trans HG8.out (gb_of ((Below.refl w8.heap.size w8).alloc (Nat.le_refl _) _))) hg9 hpr)
      have HZ9 := Hd.mk HZ3
      clear HC1 HC2 RN H1 ho9 hg9 hrow hpr hne HO8 HB8 HG8 HOF hi0 hz0 hz1 hz2 HZ3
      go_wp2_with fail
      go_roundg n
      case measure => omega
      case rel => exact ⟨_, k8, bad8, HYY.out.2, HB9, HG9, HO9, HZ9, ⟨by have := HL.out; have := HYY.out; simp; omega⟩, ⟨fun _ => by have := HNN.out; have := HYY.out; omega⟩⟩
    ·have hgt := eatK_gt he
     have HZ3 := HZ2.out
     rw [if_pos he] at HZ3
     rw [he] at CE
     obtain ⟨k7, hk7⟩ : ∃ k7, eatK s k3 43 = k7 := ⟨_, rfl⟩
     rw [hk7] at CE h7 h7g HZ3 hgt
     clear he hk7
     go_wp2_with fail
     refine CE.out.mono ?_
     rintro e w7 ⟨rfl, hb7, hg7⟩
     have HB7 := Hd.mk hb7
     have HG7 := Hd.mk (gb_trans HG5.out hg7)
     have HO7 := Hd.mk (HO5.out.grown hg7 HB5.out (by decide) (by decide))
     clear hb7 hg7 CE HB5 HG5 HO5 HZ2
     have CP := Hd.mk (text_product s k7 g false false w7 HB7.out hs h7)
     have hY2 := productD_le (bad := false) (neg := false) h7
     obtain ⟨Y, hY⟩ : ∃ Y, productD s k7 false false = Y := ⟨_, rfl⟩
     rw [hY] at CP HZ3 hY2
     obtain ⟨P2, k8, bad8⟩ := Y
     dsimp only at CP HZ3 hY2
     have HYY := Hd.mk hY2
     clear hY hY2
     go_wp2_with fail
     refine CP.out.mono ?_
     rintro e w8 ⟨v8, rfl, ho8, hb8, hg8⟩
     have HOF := Hd.mk (ho8.low HG7.out.size)
     have HB8 := Hd.mk hb8
     have HG8 := Hd.mk (gb_trans HG7.out hg8)
     have HO8 := Hd.mk (HO7.out.grown hg8 HB7.out (by decide) (by decide))
     clear ho8 hb8 hg8 CP HB7 HG7 HO7
     obtain ⟨cs, hc1, hc2⟩ := (HO8.out.up ((Below.refl w8.heap.size w8).alloc (Nat.le_refl _) (.cells #[.bool P2.neg, v8] 251)))
     have HC1 := Hd.mk hc1
     have HC2 := Hd.mk hc2
     have RN := Hd.mk (Rd.new_ w8 #[.bool P2.neg, v8] 251 1 2 rfl)
     have H1 : Hd (∀ u ∈ [Value.bool P2.neg, v8], u.oneCell' = true) := ⟨fun u hu => by
      simp only [List.mem_cons, List.not_mem_nil, or_false] at hu
      obtain ⟨A9, c9, e9, _⟩ := HOF.out.reads
      rcases hu with rfl | rfl
      ·rfl
      ·rw [e9]; rfl⟩
     obtain ⟨i0, hi0, hz0, hz1, hz2⟩ := info_split Tryz.infPro
     have hpl : ps.length ≤ 1000001 := by have := HL.out; omega
     have HX1 : Hd (ps.length + 1 ≤ maxLen ∧ (ps.length + 1) * 32 ≤ 140737488355328) := ⟨by unfold maxLen; omega, by omega⟩
     clear hc1 hc2
     go_wp2_with (at_builtin; refine wpList_append_rd _ rfl _ _ 245 rfl w.heap.size 251 i0 _ 2 32 Tryz.slPro hi0 hz0 hz1 hz2 rfl (by decide) _ ps.length cs rfl HC1.out _ _ 1 1 _ rfl RN.out H1.out HX1.out.1 HX1.out.2 (by have := HG8.out.size; simp; omega) ?_)
     intro v9 w9 ho9 hg9 _
     have hrow : ∀ b, (Value.slice Av ps.length cv).ownBlock = some b → ∃ t bs, Bk (w8.alloc (.cells #[.bool P2.neg, v8] 251)) b t bs ∧ t ≠ 292 := fun b hb => by
      obtain ⟨⟨ds, hk⟩, _⟩ := own_bk HC1.out hb
      exact ⟨_, ds, hk, by decide⟩
     have hpr : ∀ b, (Value.slice Av ps.length cv).ownBlock = some b → w.heap.size ≤ b := fun b hb => (own_bk HC1.out hb).2
     have hne : some g ≠ (Value.slice Av ps.length cv).ownBlock := fun e => by
      obtain ⟨⟨ds, hk⟩, _⟩ := own_bk HC1.out e.symm
      exact Bk.ne_ (HB8.out.al _) hk (by decide) rfl
     have HO9 : Hd (OwnP w9 w.heap.size v9 (ps ++ [P2])) := ⟨_, by rw [List.length_append]; exact ho9, (HC2.out.grownR hg9 hrow).app (.cons ((HOF.out.up ((Below.refl w8.heap.size w8).alloc (Nat.le_refl _) _)).grownR hg9 hrow) .nil)⟩
     have HB9 := Hd.mk ((HB8.out.al (.cells #[.bool P2.neg, v8] 251)).grown hg9 hne)
     have HG9 := Hd.mk (gb_new (gb_trans HG8.out (gb_of ((Below.refl w8.heap.size w8).alloc (Nat.le_refl _) _))) hg9 hpr)
     have HZ9 := Hd.mk HZ3
     clear HC1 HC2 RN H1 ho9 hg9 hrow hpr hne HO8 HB8 HG8 HOF hi0 hz0 hz1 hz2 HZ3
     go_wp2_with fail
     go_roundg n
     case measure => omega
     case rel => exact ⟨_, k8, bad8, HYY.out.2, HB9, HG9, HO9, HZ9, ⟨by have := HL.out; have := HYY.out; simp; omega⟩, ⟨fun _ => by have := HNN.out; have := HYY.out; omega⟩⟩
  ·have HT : Hd (Z = (ps, kk, true)) := ⟨by rw [← HZ.out]; cases gk <;> rfl⟩
   by_cases hlt : kk < s.size
   ·have i1 : (kk : Int) < s.size := by omega
    have HF : Hd (E = (ps, true)) := ⟨by rw [← HE.out, HT.out]; simp [hlt]⟩
    have fz := fun i => HB.out.froz i
    clear hlt
    go_wp2_with fail
    go_quiet (fail)
    go_wp2_with fail
    go_ret
    rw [HF.out]
    exact ⟨_, kk, rfl, HO.out.up (Below.dn (Below.refl _ _) _) |>.grown (set_grown _ ⟨g, 2, none⟩ _) (HB.out.dn _) (by decide) (by decide), (HB.out.dn _).set_ 2 _, (gb_dn HG.out _).set 2 _⟩
   ·have i1 : ¬ (kk : Int) < s.size := by omega
    have HF : Hd (E = (ps, true)) := ⟨by rw [← HE.out, HT.out]; simp [hlt]⟩
    clear hlt
    go_wp2_with fail
    go_quiet (fail)
    go_wp2_with fail
    go_ret
    rw [HF.out]
    exact ⟨_, kk, rfl, HO.out.up (Below.dn (Below.refl _ _) _), HB.out.dn _, gb_dn HG.out _⟩
theorem fromF_ok {b : Int} : ∀ {l : List Int} {v : Nat}, (limbs v).length ≤ 8 → U64 (fromF b v l).2 ∧ (fromF b v l).2.length ≤ 8
 | [], v, h => ⟨limbs_u64 _, h⟩
 | d :: ds, v, _ => by
   unfold fromF
   split
   ·exact ⟨U64.nil, by simp⟩
   ·rename_i h
    exact fromF_ok (by omega)
theorem numD_ok (s : ByteArray) : U64 (numD s).2 ∧ (numD s).2.length ≤ 8 := by
 unfold numD
 split
 ·exact ⟨U64.nil, by simp⟩
 ·split
  ·exact ⟨U64.nil, by simp⟩
  ·split
   ·exact ⟨U64.nil, by simp⟩
   ·exact fromF_ok (by rw [limbs_zero]; decide)
theorem nempty {s : ByteArray} (h : ¬ s.size = 0) : s.data.toList.isEmpty = false := by
 obtain ⟨⟨l⟩⟩ := s
 cases l with
 | nil => exact absurd rfl h
 | cons x l => rfl
theorem size_nil {s : ByteArray} (h : s.size = 0) : s = ⟨#[]⟩ := by
 obtain ⟨⟨l⟩⟩ := s
 cases l with
 | nil => rfl
 | cons x l => simp [ByteArray.size] at h
def valueD (f : FacD) : Int × RatD :=
 if (numD f.up).1 ≠ 0 then ((numD f.up).1, zeroD) else
 if f.down.size = 0 then makeD false (numD f.up).2 [1] else
 if (numD f.down).1 ≠ 0 then ((numD f.down).1, zeroD) else makeD false (numD f.up).2 (numD f.down).2
theorem num_value (b0 : Nat) (f : FacD) (w : World) (hb0 : b0 ≤ w.heap.size) (hu : f.up.size ≤ maxLen) (hd : f.down.size ≤ maxLen) :
    Calls Tryz.prog 268 #[.agg f.v] w fun e w' => ∃ v, e = .returned (.tuple #[v, .int .i64 (valueD f).1]) ∧ RRat w' b0 v (valueD f).2 ∧ Below w.heap.size w w' := by
 obtain ⟨vr, up, down⟩ := f
 dsimp only at hu hd
 obtain ⟨E, hE⟩ : ∃ E, valueD ⟨vr, up, down⟩ = E := ⟨_, rfl⟩
 rw [hE]
 have HE := Hd.mk hE
 clear hE
 unfold valueD at HE
 dsimp only at HE
 have HB0 := Hd.mk hb0
 have CU := Hd.mk (fun W => num_parse up W hu)
 have NU := Hd.mk (numD_ok up)
 have CD := Hd.mk (fun W => num_parse down W hd)
 have ND := Hd.mk (numD_ok down)
 obtain ⟨⟨eu, U⟩, hU⟩ : ∃ X, numD up = X := ⟨_, rfl⟩
 obtain ⟨⟨ed, D⟩, hD⟩ : ∃ X, numD down = X := ⟨_, rfl⟩
 rw [hU] at CU NU HE
 rw [hD] at CD ND HE
 dsimp only at CU NU HE CD ND
 unfold maxLen at hu hd
 clear hU hD hb0
 go_enter Tryz.func268, Tryz.ntmps268
 go_upto_region 1 with (fail)
 refine wp_gen (fun W => Bo2 w.heap.size w.heap.size (w.heap.size + 1) w W 292 64 #[.int .i64 vr, .string up, .string down] #[.bool false, .slice none 0 0, .slice none 0 0]) (Bo2.mk2 w _ _ _ _) ?_
 intro W BX
 have HG2 : Hd (w.heap.size ≤ w.heap.size + 1) := ⟨Nat.le_succ _⟩
 generalize w.heap.size + 1 = g2 at BX HG2 ⊢
 obtain ⟨q0, q1, q2⟩ := BX.out.k1.three
 go_wp2_with fail
 refine (CU.out _).mono ?_
 rintro e w2 ⟨v, rfl, ho, hb⟩
 have BX2 := Hd.mk (BX.out.up hb)
 obtain ⟨A1, c1, rfl, hc1, _, hr1⟩ := ho.reads
 have HR1 := Hd.mk hr1
 clear ho hb q0 q1 q2 BX hr1
 by_cases hz : eu = 0
 case neg =>
  have e1 : (eu != 0) = true := by rw [bne_iff_ne]; exact hz
  have HT : Hd (E = (eu, zeroD)) := ⟨by rw [← HE.out]; exact if_pos hz⟩
  obtain ⟨p0, p1, p2⟩ := BX2.out.k2.three
  have fz := fun i => BX2.out.k2.froz i
  clear hz HE
  go_wp2_with fail
  refine bodyPost_ret (res_rat2 rfl _ _ g2 _ rfl (BX2.out.k2.set3 _ _ _) rfl) rfl ?_
  rw [HT.out]
  exact ⟨_, rfl, RRat.zero _ _, ((BX2.out.below.setCell HG2.out _).setCell HG2.out _).setCell HG2.out _⟩
 have e1 : (eu != 0) = false := by rw [hz]; rfl
 have HE1 := Hd.mk (HE.out.symm.trans (if_neg (by simpa using hz)))
 have CO := Hd.mk (fun W => rnat_Of 1 (by omega) (by omega) W)
 rw [show limbs (1 : Int).toNat = [1] from limbs_1] at CO
 obtain ⟨q0, q1, q2⟩ := BX2.out.k1.three
 clear hz HE
 go_wp2_with fail
 refine (CO.out _).mono ?_
 rintro e w3 ⟨v, rfl, ho, hb⟩
 have BX3 := Hd.mk (BX2.out.up hb)
 have HR3 := Hd.mk (HR1.out.up hb)
 obtain ⟨A2, c2, rfl, hc2, _, hr2⟩ := ho.reads
 have HR2 := Hd.mk hr2
 clear ho hb q0 q1 q2 BX2 HR1 hr2
 obtain ⟨q0, q1, q2⟩ := BX3.out.k1.three
 by_cases hd0 : down.size = 0
 ·obtain rfl := size_nil hd0
  have HE2 := Hd.mk (HE1.out.trans (if_pos hd0))
  have CM := Hd.mk (rrat_Make b0 false A1 A2 c1 c2 U [1] w3 (Nat.le_trans HB0.out BX3.out.below.size) HR3.out hc1 HR2.out hc2 NU.out.1 (u64_one (by omega) (by omega)) (by have := NU.out.2; omega) (by simp))
  rw [← HE2.out] at CM
  simp only [List.length_cons, List.length_nil, Nat.zero_add] at CM
  clear HE1 hd0 CD ND CU CO
  go_wp2_with fail
  refine CM.out.mono ?_
  rintro e w5 ⟨v, rfl, hr, hb⟩
  have BX5 := Hd.mk (BX3.out.up hb)
  have HR := Hd.mk hr
  obtain ⟨XA, xc, XB, xd, rfl, _, _, _, _⟩ := hr
  obtain ⟨p0, p1, p2⟩ := BX5.out.k2.three
  have fz := fun i => BX5.out.k2.froz i
  clear hb CM BX3
  go_wp2_with fail
  refine bodyPost_ret (res_rat2 rfl _ _ g2 _ rfl (BX5.out.k2.set3 _ _ _) rfl) rfl ?_
  exact ⟨_, rfl, RRat.set3 HR.out BX5.out.k2 (Nat.le_trans HB0.out HG2.out) _ _ _, ((BX5.out.below.setCell HG2.out _).setCell HG2.out _).setCell HG2.out _⟩
 ·have hdn : down ≠ ⟨#[]⟩ := fun e => hd0 (by rw [e]; rfl)
  have e2 : down.toList.isEmpty = false := by rw [ByteArray.toList_eq]; exact nempty hd0
  have HE2 := Hd.mk (HE1.out.trans (if_neg hd0))
  clear HE1 hd0 hdn
  go_wp2_with fail
  refine (CD.out _).mono ?_
  rintro e w5 ⟨v, rfl, ho, hb⟩
  have BX5 := Hd.mk (BX3.out.up hb)
  have HR5 := Hd.mk (HR3.out.up hb)
  obtain ⟨A4, c4, rfl, hc4, _, hr4⟩ := ho.reads
  have HR4 := Hd.mk hr4
  clear ho hb q0 q1 q2 BX3 HR3 HR2 hr4 CD CU CO e2
  by_cases hz : ed = 0
  case neg =>
   have e1 : (ed != 0) = true := by rw [bne_iff_ne]; exact hz
   have HT : Hd (E = (ed, zeroD)) := ⟨by rw [HE2.out]; exact if_pos hz⟩
   obtain ⟨p0, p1, p2⟩ := BX5.out.k2.three
   have fz := fun i => BX5.out.k2.froz i
   clear hz HE2
   go_wp2_with fail
   refine bodyPost_ret (res_rat2 rfl _ _ g2 _ rfl (BX5.out.k2.set3 _ _ _) rfl) rfl ?_
   rw [HT.out]
   exact ⟨_, rfl, RRat.zero _ _, ((BX5.out.below.setCell HG2.out _).setCell HG2.out _).setCell HG2.out _⟩
  have e1 : (ed != 0) = false := by rw [hz]; rfl
  have HE3 := Hd.mk (HE2.out.trans (if_neg (by simpa using hz)))
  have CM := Hd.mk (rrat_Make b0 false A1 A4 c1 c4 U D w5 (Nat.le_trans HB0.out BX5.out.below.size) HR5.out hc1 HR4.out hc4 NU.out.1 ND.out.1 (by have := NU.out.2; omega) (by have := ND.out.2; omega))
  rw [← HE3.out] at CM
  clear hz HE2
  go_wp2_with fail
  refine CM.out.mono ?_
  rintro e w6 ⟨v, rfl, hr, hb⟩
  have BX6 := Hd.mk (BX5.out.up hb)
  have HR := Hd.mk hr
  obtain ⟨XA, xc, XB, xd, rfl, _, _, _, _⟩ := hr
  obtain ⟨p0, p1, p2⟩ := BX6.out.k2.three
  have fz := fun i => BX6.out.k2.froz i
  clear hb CM BX5
  go_wp2_with fail
  refine bodyPost_ret (res_rat2 rfl _ _ g2 _ rfl (BX6.out.k2.set3 _ _ _) rfl) rfl ?_
  exact ⟨_, rfl, RRat.set3 HR.out BX6.out.k2 (Nat.le_trans HB0.out HG2.out) _ _ _, ((BX6.out.below.setCell HG2.out _).setCell HG2.out _).setCell HG2.out _⟩
end Go.Proofs.YtgjkgkgieeoalaaGreat
