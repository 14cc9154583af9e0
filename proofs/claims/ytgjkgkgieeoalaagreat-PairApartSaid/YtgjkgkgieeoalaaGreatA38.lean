/- Parts of the proof, joined: each theorem says what it shows. -/
import Derived.Test.YtgjkgkgieeoalaaGreatA37
set_option linter.unusedVariables false
set_option linter.unusedSimpArgs false
set_option maxHeartbeats 24000000
set_option maxRecDepth 100000
namespace Go.Proofs.YtgjkgkgieeoalaaGreat
open Go.RowKit
theorem results_tmp_cell' {fn : Func} {p u : Tmp} {ty : TypeId} (h : fn.results = #[.tmp u, .cell p ty]) (tmps : Array Value) (P : Program) (w : World) :
    (results fn tmps).run P w =
     ((asAddr (tmps.getD p undef)).run P w).andThen fun a w₁ => ((loadVar ty a).run P w₁).andThen fun v w₂ => .ok (.tuple #[tmps.getD u undef, v]) w₂ := by
 simp only [results, h]
 simp [Sem.run_bind, Result.andThen]
theorem res_mono3 {fn : Func} {p u : Tmp} (h : fn.results = #[.tmp u, .cell p 66]) (tmps : Array Value) (w : World) (g : Nat) (cs : Array Value) (hp : tmps.getD p undef = .pointer (some ⟨g, 0, none⟩)) (hk : Bk w g 66 cs) (hc : cs.size = 4) :
    (results fn tmps).run Tryz.prog w = .ok (.tuple #[tmps.getD u undef, .agg cs]) w := by
 obtain ⟨n, e, h1⟩ := arr_of Tryz.arMono
 rw [results_tmp_cell' h, hp]
 have hl := run_loadVar_row (P := Tryz.prog) w g 66 66 cs (0, 0) (.array n e) hk h1 rfl (by rw [hc]; exact Tryz.szMono)
 simp [asAddr, hl, Result.andThen]
def divD (l : List (List TermD)) (m : MonD) : Int × MonD := match dividesD l m with
 | none => (-1, zeroM)
 | some x => (x.1, x.2)
theorem divD_none {l : List (List TermD)} {m : MonD} (h : dividesD l m = none) : divD l m = (-1, zeroM) := by unfold divD; rw [h]
theorem divD_some {l : List (List TermD)} {m : MonD} {i : Nat} {q : MonD} (h : dividesD l m = some (i, q)) : divD l m = ((i : Int), q) := by unfold divD; rw [h]
theorem ref_divides (b0 : Nat) (L : Option Addr) (cl : Nat) (l : List (List TermD)) (m : MonD) (w : World) (hL : RPols w b0 L l) (hsl : shortPs l) :
    Calls Tryz.prog 178 #[.slice L l.length cl, .agg m.v] w fun e w' => e = .returned (.tuple #[.int .i64 (divD l m).1, .agg (divD l m).2.v]) ∧ Below w.heap.size w w' := by
 obtain ⟨E, hE⟩ : ∃ E, divD l m = E := ⟨_, rfl⟩
 rw [hE]
 have HEQ := Hd.mk hE
 have HL := Hd.mk hL
 have HS := Hd.mk hsl
 have hl := hsl.1
 clear hE hL hsl
 go_enter Tryz.func178, Tryz.ntmps178
 go_upto_region 1 with (fail)
 refine wp_gen (fun W => Bo2 w.heap.size w.heap.size (w.heap.size + 1) w W 66 66 m.v zeroM.v) (Bo2.mk2 w _ _ _ _) ?_
 intro W BX
 obtain ⟨g1, hg1⟩ : ∃ g, w.heap.size = g := ⟨_, rfl⟩
 obtain ⟨g2, hg2⟩ : ∃ g, w.heap.size + 1 = g := ⟨_, rfl⟩
 rw [hg2] at BX ⊢
 have BX : Hd (Bo2 w.heap.size g1 g2 w W 66 66 m.v zeroM.v) := ⟨by rw [← hg1]; exact BX.out⟩
 rw [hg1]
 clear hg1 hg2
 go_wp2_with fail
 go_loopw [6] (fun v6 wx => ∃ i : Nat, v6 = .int .i64 i ∧ i ≤ l.length ∧ Hd (Bo2 w.heap.size g1 g2 w wx 66 66 m.v zeroM.v) ∧ Hd (dividesD l m = shiftD i (dividesD (l.drop i) m))) (fun v _ => l.length - (intOf v).toNat)
 case atStart => exact ⟨0, rfl, by omega, BX, ⟨dividesD_start⟩⟩
 case round =>
  clear BX
  obtain ⟨i, rfl, hi, BX, HDV⟩ := hrel
  by_cases hil : i < l.length
  ·have hil' : (i : Int) < l.length := by omega
   have hi0 : (0 : Int) ≤ i := by omega
   obtain ⟨la, a, pc, b, rfl, hab, hti, hcell, hpc, hrb⟩ := (HL.out.up BX.out.below).get hil
   by_cases hb0 : b.length = 0
   ·have hb0' : ((b.length : Int) == 0) = true := by rw [hb0]; rfl
    have HN : Hd (dividesD l m = shiftD (i + 1) (dividesD (l.drop (i + 1)) m)) := ⟨HDV.out.trans (dividesD_skip hti.out (fun u b' e => by rw [e] at hb0; simp at hb0))⟩
    clear HDV hb0
    go_wp2_with fail
    go_roundw
    case measure => first | (simp [intOf]; done) | (simp [intOf]; omega)
    case rel => exact ⟨i + 1, by go_num, by omega, BX, HN⟩
   have hb0' : ((b.length : Int) == 0) = false := by rw [beq_eq_false_iff_ne]; omega
   have hb1 : (0 : Int) < b.length := by omega
   go_upto_region 5 with (fail)
   have hb2 : 0 < b.length := by omega
   obtain ⟨ba, B1, e1, B2, e2, u, rfl, hbb, hui, -, -, -, -, q3, q4, q5, q6⟩ := hrb.out.get hb2
   have ea : ba.add (0 * 7) = ba := by unfold Addr.add; simp
   rw [ea] at q3 q4 q5 q6
   obtain ⟨b', hbu⟩ : ∃ b', b = u :: b' := by
    have h2 := hui.out
    cases b with
    | nil => simp at hb2
    | cons x b' => simp at h2; exact ⟨b', by rw [h2]⟩
   have HTI := Hd.mk (show l[i]? = some (u :: b') by rw [← hbu]; exact hti.out)
   have CD := Hd.mk (rmon_Div m u.m)
   obtain ⟨mb, mm, hM⟩ : ∃ mb mm, monDiv m u.m = (mb, mm) := ⟨_, _, rfl⟩
   rw [hM] at CD
   dsimp only at CD
   have HM := Hd.mk hM
   simp only [MonD.v] at CD
   obtain ⟨k0, k1, k2, k3⟩ := BX.out.k1.four
   have SO := Hd.mk (fun W (hB : Below wr.heap.size wr W) => And.intro (Hd.mk hB) (And.intro (cell_up k0 hB) (And.intro (cell_up k1 hB) (And.intro (cell_up k2 hB) (And.intro (cell_up k3 hB) (And.intro (cell_up hcell hB) (And.intro (cell_up q3 hB) (And.intro (cell_up q4 hB) (And.intro (cell_up q5 hB) (cell_up q6 hB))))))))))
   clear ea hui hM hrb hbb hab hbu hti
   go_cut [7, 8] (fun v7 v8 wx => ∃ gm : Nat, v7 = .pointer (some ⟨gm, 0, none⟩) ∧ v8 = .bool mb ∧ Hd (Below wr.heap.size wr wx) ∧ Hd (Bk wx gm 66 #[.int .i64 mm.x0, .int .i64 mm.x1, .int .i64 mm.x2, .int .i64 mm.x3]) ∧ gm ≠ g2)
   case first =>
    go_region_held3 (fun W => Hd (Below wr.heap.size wr W) ∧ W.cell? ⟨g1, 0, none⟩ = some (.int .i64 m.x0) ∧ W.cell? ⟨g1, 1, none⟩ = some (.int .i64 m.x1) ∧ W.cell? ⟨g1, 2, none⟩ = some (.int .i64 m.x2) ∧ W.cell? ⟨g1, 3, none⟩ = some (.int .i64 m.x3) ∧ W.cell? (la.add i) = some (.slice (some ba) b.length pc) ∧
        W.cell? ⟨ba.block, ba.off + 3, none⟩ = some (.int .i64 u.m.x0) ∧ W.cell? ⟨ba.block, ba.off + 3 + 1, none⟩ = some (.int .i64 u.m.x1) ∧ W.cell? ⟨ba.block, ba.off + 3 + 2, none⟩ = some (.int .i64 u.m.x2) ∧ W.cell? ⟨ba.block, ba.off + 3 + 3, none⟩ = some (.int .i64 u.m.x3))
     (first
      | with_reducible exact SO.out _ (.refl _ _)
      | with_reducible exact SO.out _ (Below.refl _ _).drew
      | with_reducible exact SO.out _ ((Below.refl _ _).drew.alloc (Nat.le_refl _) _)
      | with_reducible exact SO.out _ ((Below.refl _ _).alloc (Nat.le_refl _) _).drew
      | with_reducible exact SO.out _ hB5
      | with_reducible exact SO.out _ (hB5.alloc hB5.size _)
      | with_reducible exact SO.out _ (below_set4 hB5 (Nat.le_refl _) _ _ _ _)
      | with_reducible exact SO.out _ (below_set4 (hB5.alloc hB5.size _) hB5.size _ _ _ _)
      | fail)
     (first
      | (go_at_call 34; have hB := ‹Hd (Below wr.heap.size wr _) ∧ _›.1; with_reducible refine (CD.out ((wr.alloc (Obj.cells #[.int .i64 0, .int .i64 0, .int .i64 0, .int .i64 0] 66)).drew)).mono ?_; rintro e w5 ⟨rfl, hb⟩
         have hB5 := hB.out.trans (hb.mono hB.out.size)
         have hk := Hd.mk ((Bk.new_ wr 66 #[.int .i64 0, .int .i64 0, .int .i64 0, .int .i64 0]).d1.up hb)
         obtain ⟨p6, p7, p8, p9⟩ := hk.out.four
         have fz := fun i => hk.out.froz i)
      | (go_at_call 34; have hB := ‹Hd (Below wr.heap.size wr _) ∧ _›.1; with_reducible refine (CD.out _).mono ?_; rintro e w5 ⟨rfl, hb⟩
         have hB5 := hB.out.trans (hb.mono hB.out.size)))
    all_goals
     have hB9 := ‹Hd (Below wr.heap.size wr _) ∧ _›.1
     have hg2 := BX.out.k2.lt
     have hs5 := hB5.size
     go_wp2_with fail
     go_meet
     first
      | with_reducible exact ⟨_, rfl, rfl, hB9, ⟨Bk.new_ _ _ _⟩, Nat.ne_of_gt (Nat.lt_of_lt_of_le hg2 hs5)⟩
      | with_reducible exact ⟨_, rfl, rfl, hB9, ⟨hk.out.set4 _ _ _ _⟩, Nat.ne_of_gt hg2⟩
      | fail
   case rest =>
    clear CD SO k0 k1 k2 k3 q3 q4 q5 q6 hcell
    obtain ⟨gm, rfl, rfl, HB3, KM, hgm⟩ := hcut
    have BX3 := Hd.mk (BX.out.up HB3.out)
    have HGM := Hd.mk hgm
    clear BX hgm
    cases mb
    ·have HN : Hd (dividesD l m = shiftD (i + 1) (dividesD (l.drop (i + 1)) m)) := ⟨HDV.out.trans (dividesD_skip HTI.out (fun u2 b2 e => by injection e with e1 e2; subst e1; rw [HM.out]))⟩
     go_wp2_with fail
     go_roundw
     case measure => first | (simp [intOf]; done) | (simp [intOf]; omega)
     case rel => exact ⟨i + 1, by go_num, by omega, BX3, HN⟩
    ·have HN : Hd (E = ((i : Int), mm)) := ⟨by
       rw [← HEQ.out]
       exact divD_some (by rw [HDV.out, dividesD_hit HTI.out (by rw [HM.out]), HM.out])⟩
     obtain ⟨m0, m1, m2, m3⟩ := KM.out.four
     have fz := fun i => BX3.out.k2.froz i
     obtain ⟨r0, r1, r2, r3⟩ := BX3.out.k2.four
     go_wp2_with fail
     go_region
     all_goals
      go_wp2_with fail
      refine bodyPost_ret (res_mono3 rfl _ _ g2 _ rfl (BX3.out.k2.d1.set4 _ _ _ _) rfl) rfl ?_
      rw [HN.out]
      exact ⟨rfl, Below.set4 BX3.out.below.drew BX3.out.s2 _ _ _ _⟩
  ·have hil' : ¬ (i : Int) < l.length := by omega
   have hil2 : i = l.length := by omega
   have HN : Hd (E = (-1, zeroM)) := ⟨by rw [← HEQ.out]; exact divD_none (by rw [HDV.out, hil2]; exact dividesD_end)⟩
   have fz := fun i => BX.out.k2.froz i
   obtain ⟨r0, r1, r2, r3⟩ := BX.out.k2.four
   clear HDV hil hil2
   go_wp2_with fail
   refine bodyPost_ret (res_mono3 rfl _ _ g2 _ rfl (BX.out.k2.set4 _ _ _ _) rfl) rfl ?_
   rw [HN.out]
   exact ⟨rfl, Below.set4 BX.out.below BX.out.s2 _ _ _ _⟩
section
variable {b0 base : Nat} {w w' : World} {V V' R R' : Value} {vs : List Value} {r : List TermD} {qs : List (List TermD)}
theorem Fam.snoc {F : List (Value × List TermD)} {p : Value × List TermD} (h : Fam w b0 base F) (ho : OwnT w b0 base p.1 p.2) (hs : ∀ (i : Nat) q, F[i]? = some q → ∀ g, p.1.ownBlock = some g → q.1.ownBlock ≠ some g) : Fam w b0 base (F ++ [p]) := by
 have at_ : ∀ (i : Nat) q, (F ++ [p])[i]? = some q → (i < F.length ∧ F[i]? = some q) ∨ (i = F.length ∧ q = p) := fun i q h => by
  rcases Nat.lt_or_ge i F.length with hl | hl
  ·rw [List.getElem?_append_left hl] at h; exact .inl ⟨hl, h⟩
  ·rw [List.getElem?_append_right hl] at h
   cases e : i - F.length with
   | zero => rw [e] at h; injection h with h; exact .inr ⟨by omega, h.symm⟩
   | succ n => rw [e] at h; simp at h
 refine ⟨fun i q hq => ?_, fun i j q s hij hq hs' g hg => ?_⟩
 ·rcases at_ i q hq with ⟨_, h1⟩ | ⟨_, rfl⟩
  ·exact h.own i q h1
  ·exact ho
 ·rcases at_ i q hq with ⟨_, h1⟩ | ⟨e1, rfl⟩
  ·rcases at_ j s hs' with ⟨_, h2⟩ | ⟨_, rfl⟩
   ·exact h.sep i j q s hij h1 h2 g hg
   ·intro e; exact hs i q h1 g e hg
  ·rcases at_ j s hs' with ⟨_, h2⟩ | ⟨e2, _⟩
   ·exact hs j s h2 g hg
   ·exact absurd (e1.trans e2.symm) hij
theorem Mat.vrok (h : Mat w b0 base V vs R r qs) (hb : b0 ≤ base) : Rok w b0 V.ownBlock := fun g e => by
 obtain ⟨⟨cs, hk⟩, hg⟩ := own_bk h.out e
 exact ⟨Nat.le_trans hb hg, _, _, hk, by decide⟩
theorem Mat.push (h : Mat w b0 base V vs R r qs) (hb : b0 ≤ base) {u : Value} (hu : OwnT w b0 base u []) (hs : ∀ (i : Nat) q, ((R, r) :: vs.zip qs)[i]? = some q → ∀ g, u.ownBlock = some g → q.1.ownBlock ≠ some g)
    (hg : w.grownBy w' V.ownBlock) (ho : w'.ownsRow base 25 1 V' (vs.length + 1) (vs ++ [u])) : Mat w' b0 base V' (vs ++ [u]) R r (qs ++ [[]]) := by
 refine ⟨by simpa using ho, by simp [h.len], ?_⟩
 have hf := h.fam.snoc (p := (u, [])) hu hs
 have e : ((R, r) :: vs.zip qs) ++ [(u, [])] = (R, r) :: (vs ++ [u]).zip (qs ++ [[]]) := by
  rw [List.zip_append h.len]; rfl
 rw [e] at hf
 refine hf.far hg (h.vrok hb) fun i p hp => ?_
 have h1 := hf.own i p hp
 cases e1 : p.1.ownBlock with
 | none => exact .inl rfl
 | some g =>
   refine .inr fun e2 => ?_
   rcases h.sepT h1 with h2 | h2
   ·rw [h2] at e2; cases e2
   ·exact h2 (e2.symm.trans e1.symm)
theorem Mat.bare (w : World) (b0 base : Nat) (ho : w.ownsRow base 25 1 V 0 []) : Mat w b0 base V [] (.slice none 0 0) [] [] :=
 ⟨ho, rfl, ⟨fun i p hp => by
  cases i with
  | zero => injection hp with hp; subst hp; exact OwnT.nil _ _ _
  | succ i => simp at hp, fun i j p q hij hp hq g hg => by
  cases i with
  | zero => injection hp with hp; subst hp; simp [Value.ownBlock] at hg
  | succ i => simp at hp⟩⟩
theorem Mat.swapR (h : Mat w b0 base V vs (.slice none 0 0) [] qs) {g : Nat} (hg : w.heap.size ≤ g) (hB : Below w.heap.size w w') (ho : OwnT w' b0 base (.slice (some ⟨g, 0, none⟩) 0 0) []) : Mat w' b0 base V vs (.slice (some ⟨g, 0, none⟩) 0 0) [] qs := by
 have h2 := h.up hB
 refine ⟨h2.out, h2.len, ⟨fun i p hp => ?_, fun i j p q hij hp hq k hk => ?_⟩⟩
 ·cases i with
  | zero => injection hp with hp; subst hp; exact ho
  | succ i => exact h2.fam.own (i + 1) p (by simpa using hp)
 ·cases i with
  | zero =>
    injection hp with hp
    subst hp
    cases j with
    | zero => exact absurd rfl hij
    | succ j =>
      have h3 := h.fam.own (j + 1) q (by simpa using hq)
      intro e
      have h4 := (h3.lt e).1
      simp only [Value.ownBlock, Option.some.injEq] at hk
      omega
  | succ i =>
    have h3 := h.fam.own (i + 1) p (by simpa using hp)
    have h4 := (h3.lt hk).1
    cases j with
    | zero =>
      injection hq with hq
      subst hq
      intro e
      simp only [Value.ownBlock, Option.some.injEq] at e
      omega
    | succ j => exact h2.fam.sep (i + 1) (j + 1) p q hij (by simpa using hp) (by simpa using hq) k hk
end
structure Rv (b0 : Nat) (L : Option Addr) (cl : Nat) (l : List (List TermD)) (w0 w : World) (A : Option Addr) (c : Nat) (p : List TermD) (V R : Value) (vs : List Value) (r : List TermD) (qs : List (List TermD)) : Prop where
 below : Below w0.heap.size w0 w
 bb : b0 ≤ w0.heap.size
 rl : RPols w0 b0 L l
 hcl : l.length ≤ cl
 rp : RPol w b0 A p
 hc : p.length ≤ c
 mat : Mat w b0 w0.heap.size V vs R r qs
 len : qs.length = l.length
 off : p ≠ [] → Off ((R, r) :: vs.zip qs) A ∧ ∀ ad, A = some ad → V.ownBlock ≠ some ad.block
section
variable {b0 : Nat} {L : Option Addr} {cl : Nat} {l : List (List TermD)} {w0 w w' : World} {A : Option Addr} {c : Nat} {p : List TermD} {V R : Value} {vs : List Value} {r : List TermD} {qs : List (List TermD)}
theorem Rv.up (h : Rv b0 L cl l w0 w A c p V R vs r qs) (hb : Below w.heap.size w w') : Rv b0 L cl l w0 w' A c p V R vs r qs :=
 ⟨goes h.below hb, h.bb, h.rl, h.hcl, h.rp.up hb, h.hc, h.mat.up hb, h.len, h.off⟩
theorem Rv.hb0 (h : Rv b0 L cl l w0 w A c p V R vs r qs) : b0 ≤ w.heap.size := Nat.le_trans h.bb h.below.size
theorem Rv.setp (h : Rv b0 L cl l w0 w A c p V R vs r qs) {A' : Option Addr} {c' : Nat} {p' : List TermD} (hr : RPol w b0 A' p') (hc' : p'.length ≤ c') (hf : p' ≠ [] → Off ((R, r) :: vs.zip qs) A' ∧ ∀ ad, A' = some ad → V.ownBlock ≠ some ad.block) :
    Rv b0 L cl l w0 w A' c' p' V R vs r qs := ⟨h.below, h.bb, h.rl, h.hcl, hr, hc', h.mat, h.len, hf⟩
theorem Rv.fresh (h : Rv b0 L cl l w0 w A c p V R vs r qs) {A' : Option Addr} (hf : Fr w.heap.size A') : Off ((R, r) :: vs.zip qs) A' ∧ ∀ ad, A' = some ad → V.ownBlock ≠ some ad.block :=
 ⟨Off.fresh h.mat.fam hf, fun ad e => by
  have h1 := hf ad e
  intro e2
  obtain ⟨⟨cs, hk⟩, _⟩ := own_bk h.mat.out e2
  have := hk.lt
  omega⟩
theorem Rv.tail {pa : Addr} {t : TermD} {p' : List TermD} (h : Rv b0 L cl l w0 w (some pa) c (t :: p') V R vs r qs) {ad : Addr} {c' : Nat} (hc' : p'.length ≤ c') (ha : p' ≠ [] → ad = pa.add 7) : Rv b0 L cl l w0 w (some ad) c' p' V R vs r qs := by
 refine h.setp (A' := some ad) ?_ hc' fun hn => ?_
 ·by_cases hn : p' = []
  ·subst hn; exact RPol.nil _ _ _
  ·rw [ha hn]; exact h.rp.tail
 ·have hb : ad.block = pa.block := by rw [ha hn, add_block]
  obtain ⟨h1, h2⟩ := h.off (by simp)
  refine ⟨h1.block hb, fun x hx => ?_⟩
  injection hx with hx
  subst hx
  rw [hb]
  exact h2 pa rfl
theorem Rv.rest (h : Rv b0 L cl l w0 w A c p V R vs r qs) {R' : Value} {us : List TermD} (AP : Apg b0 w0.heap.size w w' R R' r us) : Rv b0 L cl l w0 w' A c p V R' vs (r ++ us) qs := by
 have ho := h.mat.fam.own 0 (R, r) rfl
 have hrok : Rok w b0 R.ownBlock := ho.rok h.bb
 have m1 := h.mat.beside h.bb AP.grow AP.own AP.at_
 have hrp : RPol w' b0 A p := h.rp.grown AP.grow (fun hn ad e e2 => (h.off hn).1 0 (R, r) rfl ad e e2) hrok
 have hbl : Below w0.heap.size w0 w' := h.below.grown AP.grow h.below.size fun g e => (ho.lt e).2.1
 refine ⟨hbl, h.bb, h.rl, h.hcl, hrp, h.hc, m1, h.len, fun hn => ⟨?_, (h.off hn).2⟩⟩
 have := (h.off hn).1.app (i := 0) (p := (R, r)) (q := (R', r ++ us)) rfl (h.rp.at0 hn) AP.at_
 simpa using this
theorem Rv.quot (h : Rv b0 L cl l w0 w A c p V R vs r qs) {i G n cV : Nat} {v v' : Value} {q us : List TermD} (hV : V = .slice (some ⟨G, 0, none⟩) n cV) (hv : vs[i]? = some v) (hq : qs[i]? = some q) (AP : Apg b0 w0.heap.size w w' v v' q us) :
    Rv b0 L cl l w0 (w'.setCell ⟨G, i, none⟩ v') A c p V R (vs.set i v') r (qs.set i (q ++ us)) := by
 subst hV
 have ho := h.mat.fam.own (i + 1) (v, q) (h.mat.zip_at hv hq)
 have hrok : Rok w b0 v.ownBlock := ho.rok h.bb
 obtain ⟨m1, m2⟩ := h.mat.inner h.bb hv hq AP.grow AP.own AP.at_
 have hn : n = vs.length := by
  rcases h.mat.out.2 with ⟨e, _⟩ | ⟨g, cap, cur, e, _⟩
  ·cases e
  ·injection e
 obtain ⟨⟨cs, hkG⟩, hbG⟩ := own_bk h.mat.out (gp := G) rfl
 obtain ⟨⟨cs', hkG'⟩, _⟩ := own_bk m1 (gp := G) rfl
 have hbl : Below w0.heap.size w0 w' := h.below.grown AP.grow h.below.size fun g e => (ho.lt e).2.1
 have hrp : RPol w' b0 A p := h.rp.grown AP.grow (fun hn ad e e2 => (h.off hn).1 (i + 1) (v, q) (h.mat.zip_at hv hq) ad e e2) hrok
 refine ⟨hbl.setCell hbG _, h.bb, h.rl, h.hcl, hrp.grown (set_grown w' ⟨G, i, none⟩ _) (fun hn ad e e2 => (h.off hn).2 ad e e2) (fun g e => by injection e with e; subst e; exact ⟨Nat.le_trans h.bb hbG, _, _, hkG', by decide⟩), h.hc, ?_, by rw [List.length_set]; exact h.len, fun hne => ⟨?_, (h.off hne).2⟩⟩
 ·exact Mat.store (by rw [hn]; rw [hn] at m1; exact m1) hn h.mat.len h.bb m2
 ·have := (h.off hne).1.app (i := i + 1) (p := (v, q)) (q := (v', q ++ us)) (h.mat.zip_at hv hq) (h.rp.at0 hne) AP.at_
  rw [List.set_cons_succ, zip_set] at this
  exact this
end
end Go.Proofs.YtgjkgkgieeoalaaGreat
