/- Parts of the proof, joined: each theorem says what it shows. -/
import Derived.Test.YtgjkgkgieeoalaaGreatC28
import Derived.Test.YtgjkgkgieeoalaaGreatC16
import Derived.Test.YtgjkgkgieeoalaaGreatC23
import Derived.Test.YtgjkgkgieeoalaaGreatC03
set_option linter.unusedVariables false
set_option linter.unusedSimpArgs false
set_option maxHeartbeats 24000000
set_option maxRecDepth 100000
namespace Go.Proofs.YtgjkgkgieeoalaaGreat
open Go.RowKit Go.PlainAid
theorem gb_set {w w' : World} {row : Option Nat} (h : w.grownBy w' row) {g : Nat} (hg : w.heap.size ≤ g) (i : Nat) (u : Value) : w.grownBy (w'.setCell ⟨g, i, none⟩ u) row :=
 ⟨h.os, h.tape, h.output, by simpa using h.size, fun b hb hne => (Below.heap_setCell w' ⟨g, i, none⟩ u b (fun e => by subst e; exact absurd hb (Nat.not_lt.2 hg))).trans (h.block b hb hne)⟩
theorem set3_grown' (w : World) (g : Nat) (x y z : Value) : w.grownBy (((w.setCell ⟨g, 0, none⟩ x).setCell ⟨g, 1, none⟩ y).setCell ⟨g, 2, none⟩ z) (some g) := ((set_grown w ⟨g, 0, none⟩ x).set 1 y).set 2 z
structure FacD where
 var : Int
 up : ByteArray
 down : ByteArray
def FacD.v (f : FacD) : Array Value := #[.int .i64 f.var, .string f.up, .string f.down]
def badN (s : ByteArray) (k : Nat) : Bool := (numD (numberS s k)).1 == 40
def oneS : ByteArray := ⟨#[49]⟩
def factorD (s : ByteArray) (k : Nat) (bad : Bool) : FacD × Nat × Bool :=
 let k1 := skipD s k
 let c := bt s k1
 if 0 ≤ varD c then
  let k2 := eatK s k1 c
  let k3 := eatK s k2 94
  if eatB s k2 94 = true then (⟨varD c, numberS s k3, ⟨#[]⟩⟩, numberK s k3, bad || badN s k3) else (⟨varD c, oneS, ⟨#[]⟩⟩, k3, bad)
 else
  let k2 := numberK s k1
  let b2 := bad || badN s k1
  let k3 := eatK s k2 47
  if eatB s k2 47 = true then (⟨-1, numberS s k1, numberS s k3⟩, numberK s k3, b2 || badN s k3) else (⟨-1, numberS s k1, ⟨#[]⟩⟩, k3, b2)
theorem Tryz.stFac : isStruct (Tryz.prog.underlying 292) = true := by kernel_rfl
theorem Tryz.szFac : (Tryz.prog.info? 292).map (·.size) = some 3 := by kernel_rfl
theorem res_fac {fn : Func} {p : Tmp} (h : fn.results = #[.cell p 292]) (tmps : Array Value) (w : World) (g : Nat) (cs : Array Value) (hp : tmps.getD p undef = .pointer (some ⟨g, 0, none⟩)) (hk : Bk w g 292 cs) (hc : cs.size = 3) :
    (results fn tmps).run Tryz.prog w = .ok (.agg cs) w := by
 obtain ⟨f, h1⟩ := st_of Tryz.stFac
 exact results_cell_row h tmps w g _ cs (0, 0) (.struct f) hp hk h1 rfl (by rw [hc]; exact Tryz.szFac)
theorem text_factor (s : ByteArray) (k g : Nat) (bad : Bool) (w : World) (hk : Bk w g 244 (tx s k bad)) (hs : s.size ≤ maxLen) (hks : k ≤ s.size) :
    Calls Tryz.prog 296 #[.pointer (some ⟨g, 0, none⟩)] w fun e w' => e = .returned (.agg (factorD s k bad).1.v) ∧ Bk w' g 244 (tx s (factorD s k bad).2.1 (factorD s k bad).2.2) ∧ w.grownBy w' (some g) := by
 obtain ⟨E, hE⟩ : ∃ E, factorD s k bad = E := ⟨_, rfl⟩
 rw [hE]
 have HE := Hd.mk hE
 clear hE
 unfold factorD at HE
 dsimp only at HE
 have HK := Hd.mk hk
 have hgl := hk.lt
 have CX := Hd.mk (fun W (hW : Bk W g 244 (tx s k bad)) => text_next s k g bad W hW hs hks)
 have h1 := skipD_le hks
 obtain ⟨k1, hk1⟩ : ∃ k1, skipD s k = k1 := ⟨_, rfl⟩
 rw [hk1] at CX h1 HE
 obtain ⟨c, hc⟩ : ∃ c, bt s k1 = c := ⟨_, rfl⟩
 rw [hc] at CX HE
 have CV := Hd.mk (ref_variable c)
 obtain ⟨V, hV⟩ : ∃ V, varD c = V := ⟨_, rfl⟩
 rw [hV] at CV HE
 clear hk hk1 hc hV
 go_enter Tryz.func296, Tryz.ntmps296
 go_upto_region 1 with (fail)
 refine wp_gen (fun W => Bk W g 244 (tx s k bad) ∧ Bk W w.heap.size 292 #[.int .i64 0, .string ⟨#[]⟩, .string ⟨#[]⟩] ∧ w.grownBy W (some g)) ⟨HK.out.al _, Bk.new_ _ _ _, gb_of ((Below.refl _ _).alloc (Nat.le_refl _) _)⟩ ?_
 intro W hW
 have hne : some w.heap.size ≠ some g := fun e => by injection e with e; omega
 obtain ⟨gr, hgr⟩ : ∃ gr, w.heap.size = gr := ⟨_, rfl⟩
 have HGR : Hd (w.heap.size ≤ gr ∧ some gr ≠ some g) := ⟨by omega, by rw [← hgr]; exact hne⟩
 rw [hgr] at hW ⊢
 have HB := Hd.mk hW.out.1
 have HR := Hd.mk hW.out.2.1
 have HG := Hd.mk hW.out.2.2
 clear hW hgr hne hgl HK
 go_wp2_with fail
 refine (CX.out _ HB.out).mono ?_
 rintro e w2 ⟨rfl, hb2, hg2⟩
 have HB2 := Hd.mk hb2
 have HR2 := Hd.mk (HR.out.grown hg2 HGR.out.2)
 have HG2 := Hd.mk (gb_trans HG.out hg2)
 clear hb2 hg2 HB HR HG CX
 go_wp2_with fail
 refine (CV.out _).mono ?_
 rintro e w3 ⟨rfl, rfl⟩
 by_cases hv : 0 ≤ V
 ·have HE1 := Hd.mk (HE.out.symm.trans (if_pos hv))
  clear HE
  have CE := Hd.mk (text_eat s k1 g bad c w2 HB2.out hs h1)
  have h2 := eatK_le (c := c) h1
  obtain ⟨k2, hk2⟩ : ∃ k2, eatK s k1 c = k2 := ⟨_, rfl⟩
  rw [hk2] at CE h2 HE1
  clear hk2
  go_wp2_with fail
  refine CE.out.mono ?_
  rintro e w4 ⟨rfl, hb4, hg4⟩
  have HB4 := Hd.mk hb4
  have HR4 := Hd.mk (HR2.out.grown hg4 HGR.out.2)
  have HG4 := Hd.mk (gb_trans HG2.out hg4)
  clear hb4 hg4 HB2 HR2 HG2 CE
  have CE := Hd.mk (text_eat s k2 g bad 94 w4 HB4.out hs h2)
  have h3 := eatK_le (c := 94) h2
  obtain ⟨k3, hk3⟩ : ∃ k3, eatK s k2 94 = k3 := ⟨_, rfl⟩
  obtain ⟨B, hB⟩ : ∃ B, eatB s k2 94 = B := ⟨_, rfl⟩
  rw [hk3, hB] at CE
  rw [hk3] at h3
  rw [hk3, hB] at HE1
  clear hk3 hB
  cases B
  ·have HE2 := Hd.mk (HE1.out.trans (if_neg (by simp)))
   clear HE1
   go_wp2_with fail
   refine CE.out.mono ?_
   rintro e w5 ⟨rfl, hb5, hg5⟩
   have HB5 := Hd.mk hb5
   have HR5 := Hd.mk (HR4.out.grown hg5 HGR.out.2)
   have HG5 := Hd.mk (gb_trans HG4.out hg5)
   obtain ⟨r0, r1, r2⟩ := HR5.out.three
   have fz := fun i => HR5.out.froz i
   clear hb5 hg5 HB4 HR4 HG4 CE
   go_wp2_with fail
   refine bodyPost_ret (res_fac rfl _ _ gr _ rfl (HR5.out.set3 _ _ _) rfl) rfl ?_
   rw [HE2.out]
   exact ⟨rfl, HB5.out.grown (set3_grown' _ gr _ _ _) (fun e => HGR.out.2 e.symm), gb_set (gb_set (gb_set HG5.out HGR.out.1 _ _) HGR.out.1 _ _) HGR.out.1 _ _⟩
  ·have HE2 := Hd.mk (HE1.out.trans (if_pos rfl))
   clear HE1
   go_wp2_with fail
   refine CE.out.mono ?_
   rintro e w5 ⟨rfl, hb5, hg5⟩
   have HB5 := Hd.mk hb5
   have HR5 := Hd.mk (HR4.out.grown hg5 HGR.out.2)
   have HG5 := Hd.mk (gb_trans HG4.out hg5)
   clear hb5 hg5 HB4 HR4 HG4 CE
   have CN := Hd.mk (text_number s k3 g bad w5 HB5.out hs h3)
   go_wp2_with fail
   refine CN.out.mono ?_
   rintro e w6 ⟨rfl, hb6, hg6⟩
   have HB6 := Hd.mk hb6
   have HR6 := Hd.mk (HR5.out.grown hg6 HGR.out.2)
   have HG6 := Hd.mk (gb_trans HG5.out hg6)
   obtain ⟨r0, r1, r2⟩ := HR6.out.three
   have fz := fun i => HR6.out.froz i
   clear hb6 hg6 HB5 HR5 HG5 CN
   go_wp2_with fail
   refine bodyPost_ret (res_fac rfl _ _ gr _ rfl (HR6.out.set3 _ _ _) rfl) rfl ?_
   rw [HE2.out]
   exact ⟨rfl, HB6.out.grown (set3_grown' _ gr _ _ _) (fun e => HGR.out.2 e.symm), gb_set (gb_set (gb_set HG6.out HGR.out.1 _ _) HGR.out.1 _ _) HGR.out.1 _ _⟩
 ·have HE1 := Hd.mk (HE.out.symm.trans (if_neg hv))
  clear HE
  have hneg : V < 0 := by omega
  have CN := Hd.mk (text_number s k1 g bad w2 HB2.out hs h1)
  have h2 := numberK_le h1
  obtain ⟨k2, hk2⟩ : ∃ k2, numberK s k1 = k2 := ⟨_, rfl⟩
  obtain ⟨S1, hS1⟩ : ∃ S1, numberS s k1 = S1 := ⟨_, rfl⟩
  obtain ⟨b2, hb2'⟩ : ∃ b2, (bad || badN s k1) = b2 := ⟨_, rfl⟩
  have HB2' := Hd.mk hb2'
  unfold badN at HB2'
  rw [hk2] at CN h2
  rw [HB2'.out, hS1] at CN
  rw [hk2, hb2', hS1] at HE1
  clear hk2 hS1 hb2' HB2'
  go_wp2_with fail
  refine CN.out.mono ?_
  rintro e w4 ⟨rfl, hb4, hg4⟩
  have HB4 := Hd.mk hb4
  have HR4 := Hd.mk (HR2.out.grown hg4 HGR.out.2)
  have HG4 := Hd.mk (gb_trans HG2.out hg4)
  clear hb4 hg4 HB2 HR2 HG2 CN
  have CE := Hd.mk (text_eat s k2 g b2 47 w4 HB4.out hs h2)
  have h3 := eatK_le (c := 47) h2
  obtain ⟨k3, hk3⟩ : ∃ k3, eatK s k2 47 = k3 := ⟨_, rfl⟩
  obtain ⟨B, hB⟩ : ∃ B, eatB s k2 47 = B := ⟨_, rfl⟩
  rw [hk3, hB] at CE
  rw [hk3] at h3
  rw [hk3, hB] at HE1
  clear hk3 hB
  cases B
  ·have HE2 := Hd.mk (HE1.out.trans (if_neg (by simp)))
   clear HE1
   go_wp2_with fail
   refine CE.out.mono ?_
   rintro e w5 ⟨rfl, hb5, hg5⟩
   have HB5 := Hd.mk hb5
   have HR5 := Hd.mk (HR4.out.grown hg5 HGR.out.2)
   have HG5 := Hd.mk (gb_trans HG4.out hg5)
   obtain ⟨r0, r1, r2⟩ := HR5.out.three
   have fz := fun i => HR5.out.froz i
   clear hb5 hg5 HB4 HR4 HG4 CE
   go_wp2_with fail
   refine bodyPost_ret (res_fac rfl _ _ gr _ rfl (HR5.out.set3 _ _ _) rfl) rfl ?_
   rw [HE2.out]
   exact ⟨rfl, HB5.out.grown (set3_grown' _ gr _ _ _) (fun e => HGR.out.2 e.symm), gb_set (gb_set (gb_set HG5.out HGR.out.1 _ _) HGR.out.1 _ _) HGR.out.1 _ _⟩
  ·have HE2 := Hd.mk (HE1.out.trans (if_pos rfl))
   clear HE1
   go_wp2_with fail
   refine CE.out.mono ?_
   rintro e w5 ⟨rfl, hb5, hg5⟩
   have HB5 := Hd.mk hb5
   have HR5 := Hd.mk (HR4.out.grown hg5 HGR.out.2)
   have HG5 := Hd.mk (gb_trans HG4.out hg5)
   clear hb5 hg5 HB4 HR4 HG4 CE
   have CN := Hd.mk (text_number s k3 g b2 w5 HB5.out hs h3)
   go_wp2_with fail
   refine CN.out.mono ?_
   rintro e w6 ⟨rfl, hb6, hg6⟩
   have HB6 := Hd.mk hb6
   have HR6 := Hd.mk (HR5.out.grown hg6 HGR.out.2)
   have HG6 := Hd.mk (gb_trans HG5.out hg6)
   obtain ⟨r0, r1, r2⟩ := HR6.out.three
   have fz := fun i => HR6.out.froz i
   clear hb6 hg6 HB5 HR5 HG5 CN
   go_wp2_with fail
   refine bodyPost_ret (res_fac rfl _ _ gr _ rfl (HR6.out.set3 _ _ _) rfl) rfl ?_
   rw [HE2.out]
   exact ⟨rfl, HB6.out.grown (set3_grown' _ gr _ _ _) (fun e => HGR.out.2 e.symm), gb_set (gb_set (gb_set HG6.out HGR.out.1 _ _) HGR.out.1 _ _) HGR.out.1 _ _⟩
end Go.Proofs.YtgjkgkgieeoalaaGreat
namespace Go.Proofs.YtgjkgkgieeoalaaGreat
open Go.RowKit
section
variable {w w' : World} {b0 base : Nat} {row : Option Nat}
def Rok (w : World) (b0 : Nat) (row : Option Nat) : Prop := ∀ g, row = some g → b0 ≤ g ∧ ∃ t cs, Bk w g t cs ∧ t ≠ 112
theorem OwnT.grown {u : Value} {q : List TermD} (h : OwnT w b0 base u q) (hg : w.grownBy w' row) (hne : u.ownBlock = none ∨ u.ownBlock ≠ row) (hr : Rok w b0 row) : OwnT w' b0 base u q :=
 let ⟨cs, h1, h2⟩ := h; ⟨cs, World.ownsRow.kept h1 hg hne, h2.grown hg hr⟩
theorem OwnT.rok {u : Value} {q : List TermD} (h : OwnT w b0 base u q) (hb : b0 ≤ base) : Rok w b0 u.ownBlock :=
 let ⟨_, h1, _⟩ := h; own_row_ok h1 hb (by decide)
theorem OwnT.lt {u : Value} {q : List TermD} (h : OwnT w b0 base u q) {g : Nat} (e : u.ownBlock = some g) : g < w.heap.size ∧ base ≤ g ∧ ∃ cs, Bk w g 68 cs := by
 obtain ⟨cs, h1, _⟩ := h
 obtain ⟨⟨ds, hk⟩, hb⟩ := own_bk h1 e
 exact ⟨hk.lt, hb, ds, hk⟩
theorem RPol.grown {A : Option Addr} {ts : List TermD} (h : RPol w b0 A ts) (hg : w.grownBy w' row) (hne : ts ≠ [] → ∀ ad, A = some ad → row ≠ some ad.block) (hr : Rok w b0 row) : RPol w' b0 A ts := by
 obtain ⟨cs, h1, h2⟩ := h
 refine ⟨cs, ⟨h1.1, fun hn => ?_⟩, h2.grown hg hr⟩
 obtain ⟨ad, e, hb, hc⟩ := h1.2 hn
 have hne' := hne (fun e0 => by rw [e0] at hn; cases hn) ad e
 exact ⟨ad, e, Nat.lt_of_lt_of_le hb hg.size, fun j u hu => (World.cell?_of_block (by rw [add_block]; exact hg.block _ hb (fun e2 => hne' e2.symm))).trans (hc j u hu)⟩
structure Fam (w : World) (b0 base : Nat) (F : List (Value × List TermD)) : Prop where
 own : ∀ (i : Nat) p, F[i]? = some p → OwnT w b0 base p.1 p.2
 sep : ∀ (i j : Nat) p q, i ≠ j → F[i]? = some p → F[j]? = some q → ∀ g, p.1.ownBlock = some g → q.1.ownBlock ≠ some g
def Off (F : List (Value × List TermD)) (A : Option Addr) : Prop := ∀ (i : Nat) p, F[i]? = some p → ∀ ad, A = some ad → p.1.ownBlock ≠ some ad.block
variable {F : List (Value × List TermD)} {p q : Value × List TermD} {i : Nat} {A : Option Addr}
theorem Fam.up (h : Fam w b0 base F) (hb : Below w.heap.size w w') : Fam w' b0 base F := ⟨fun i p hp => (h.own i p hp).up hb, h.sep⟩
theorem Fam.nil (w : World) (b0 base : Nat) : Fam w b0 base [] := ⟨fun i p h => by simp at h, fun i j p q _ h => by simp at h⟩
theorem Fam.far (h : Fam w b0 base F) (hg : w.grownBy w' row) (hr : Rok w b0 row) (hne : ∀ (i : Nat) p, F[i]? = some p → p.1.ownBlock = none ∨ p.1.ownBlock ≠ row) : Fam w' b0 base F :=
 ⟨fun i p hp => (h.own i p hp).grown hg (hne i p hp) hr, h.sep⟩
theorem set_at {α : Type} {F : List α} {i j : Nat} {q s : α} (hs : (F.set i q)[j]? = some s) : (j = i ∧ s = q) ∨ (j ≠ i ∧ F[j]? = some s) := by
 by_cases e : j = i
 ·subst e
  rw [List.getElem?_set_self'] at hs
  cases h : F[j]? with
  | none => rw [h] at hs; cases hs
  | some x => rw [h] at hs; injection hs with hs; exact .inl ⟨rfl, hs.symm⟩
 ·rw [List.getElem?_set_ne (Ne.symm e)] at hs
  exact .inr ⟨e, hs⟩
theorem Fam.app (h : Fam w b0 base F) (hi : F[i]? = some p) (hb : b0 ≤ base) (hg : w.grownBy w' p.1.ownBlock) (ho : OwnT w' b0 base q.1 q.2) (hat : q.1.ownBlock = p.1.ownBlock ∨ q.1.ownBlock = some w.heap.size) : Fam w' b0 base (F.set i q) := by
 have hr := (h.own i p hi).rok hb
 have hlen : i < F.length := (List.getElem?_eq_some_iff.1 hi).1
 have key : ∀ (j : Nat) s, j ≠ i → F[j]? = some s → ∀ g, s.1.ownBlock = some g → q.1.ownBlock ≠ some g := fun j s hj hs g hg' e => by
  rcases hat with h1 | h1
  ·exact h.sep j i s p hj hs hi g hg' (h1 ▸ e)
  ·rw [h1] at e
   injection e with e
   have := ((h.own j s hs).lt hg').1
   omega
 refine ⟨fun j s hs => ?_, fun j k s t hjk hs ht g hg' => ?_⟩
 ·rcases set_at hs with ⟨_, rfl⟩ | ⟨hne, hs⟩
  ·exact ho
  ·refine (h.own j s hs).grown hg ?_ hr
   cases e : s.1.ownBlock with
   | none => exact .inl rfl
   | some g => exact .inr fun e2 => h.sep j i s p hne hs hi g e e2.symm
 ·rcases set_at hs with ⟨e1, e2⟩ | ⟨hne, hs2⟩
  ·rcases set_at ht with ⟨e, _⟩ | ⟨hne2, ht2⟩
   ·exact absurd (e1.trans e.symm) hjk
   ·intro e3
    exact key k t hne2 ht2 g e3 (e2 ▸ hg')
  ·rcases set_at ht with ⟨e1, e2⟩ | ⟨hne2, ht2⟩
   ·rw [e2]; exact key j s hne hs2 g hg'
   ·exact h.sep j k s t hjk hs2 ht2 g hg'
theorem Off.app (h : Off F A) (hi : F[i]? = some p) (hlt : ∀ ad, A = some ad → ad.block < w.heap.size) (hat : q.1.ownBlock = p.1.ownBlock ∨ q.1.ownBlock = some w.heap.size) : Off (F.set i q) A := fun j s hs ad e => by
 rcases set_at hs with ⟨_, rfl⟩ | ⟨_, hs⟩
 ·rcases hat with h1 | h1
  ·rw [h1]; exact h i p hi ad e
  ·rw [h1]; intro e2; injection e2 with e2; have := hlt ad e; omega
 ·exact h j s hs ad e
theorem Off.fresh (h : Fam w b0 base F) (hf : Fr w.heap.size A) : Off F A := fun i p hi ad e e2 => by
 have h1 := ((h.own i p hi).lt e2).1
 have h2 := hf ad e
 omega
theorem Off.old (h : Fam w b0 base F) (hf : ∀ ad, A = some ad → ad.block < base) : Off F A := fun i p hi ad e e2 => by
 have h1 := ((h.own i p hi).lt e2).2.1
 have h2 := hf ad e
 omega
theorem Fam.cons (h : Fam w b0 base F) (ho : OwnT w b0 base p.1 p.2) (hs : ∀ (i : Nat) q, F[i]? = some q → ∀ g, p.1.ownBlock = some g → q.1.ownBlock ≠ some g) : Fam w b0 base (p :: F) :=
 ⟨fun i q hq => by
  cases i with
  | zero => injection hq with hq; subst hq; exact ho
  | succ i => exact h.own i q (by simpa using hq), fun i j q s hij hq hs' g hg => by
  cases i with
  | zero =>
    injection hq with hq
    subst hq
    cases j with
    | zero => exact absurd rfl hij
    | succ j => exact hs j s (by simpa using hs') g hg
  | succ i =>
    cases j with
    | zero =>
      injection hs' with hs'
      subst hs'
      intro e
      exact hs i q (by simpa using hq) g e hg
    | succ j => exact h.sep i j q s (by omega) (by simpa using hq) (by simpa using hs') g hg⟩
theorem zip_set {α β : Type} : ∀ (vs : List α) (qs : List β) (j : Nat) (v : α) (q : β), (vs.zip qs).set j (v, q) = (vs.set j v).zip (qs.set j q)
 | [], _, _, _, _ => by simp
 | _ :: _, [], j, _, _ => by cases j <;> simp
 | _ :: _, _ :: _, 0, _, _ => rfl
 | a :: vs, b :: qs, j + 1, v, q => by simp [zip_set vs qs j v q]
structure Mat (w : World) (b0 base : Nat) (V : Value) (vs : List Value) (R : Value) (r : List TermD) (qs : List (List TermD)) : Prop where
 out : w.ownsRow base 25 1 V vs.length vs
 len : vs.length = qs.length
 fam : Fam w b0 base ((R, r) :: vs.zip qs)
variable {V R : Value} {vs : List Value} {r : List TermD} {qs : List (List TermD)}
theorem Mat.up (h : Mat w b0 base V vs R r qs) (hb : Below w.heap.size w w') : Mat w' b0 base V vs R r qs := ⟨own_below h.out hb, h.len, h.fam.up hb⟩
theorem Mat.zip_at (h : Mat w b0 base V vs R r qs) {j : Nat} {v : Value} {qj : List TermD} (hv : vs[j]? = some v) (hq : qs[j]? = some qj) : ((R, r) :: vs.zip qs)[j + 1]? = some (v, qj) := by
 rw [List.getElem?_cons_succ]; exact List.getElem?_zip_eq_some.2 ⟨hv, hq⟩
theorem Mat.get (h : Mat w b0 base V vs R r qs) {j : Nat} (hj : j < qs.length) : ∃ v qj, vs[j]? = some v ∧ qs[j]? = some qj ∧ OwnT w b0 base v qj := by
 have h1 : vs[j]? = some (vs[j]'(by rw [h.len]; exact hj)) := List.getElem?_eq_getElem _
 have h2 : qs[j]? = some qs[j] := List.getElem?_eq_getElem hj
 exact ⟨_, _, h1, h2, h.fam.own (j + 1) _ (h.zip_at h1 h2)⟩
theorem Mat.form (h : Mat w b0 base V vs R r qs) (hl : 0 < qs.length) : ∃ G c, V = .slice (some ⟨G, 0, none⟩) vs.length c ∧ base ≤ G ∧ G < w.heap.size ∧ (∃ cs, Bk w G 25 cs) ∧ ∀ j v, vs[j]? = some v → w.cell? ⟨G, j, none⟩ = some v := by
 obtain ⟨G, c, hv, hb, hg⟩ := World.ownsRow.form h.out (by rw [h.len]; exact hl)
 subst hv
 refine ⟨G, c, rfl, hb, hg, (own_bk h.out rfl).1, fun j v hj => ?_⟩
 have := h.out.cells (g := G) rfl j v hj
 rwa [add_win, Nat.zero_add] at this
theorem Mat.sepT (h : Mat w b0 base V vs R r qs) {u : Value} {q : List TermD} (hu : OwnT w b0 base u q) : V.ownBlock = none ∨ V.ownBlock ≠ u.ownBlock := by
 cases e : V.ownBlock with
 | none => exact .inl rfl
 | some G =>
   refine .inr fun e2 => ?_
   obtain ⟨⟨cs, hk⟩, _⟩ := own_bk h.out e
   obtain ⟨_, _, ds, hk2⟩ := hu.lt e2.symm
   exact Bk.ne_ hk hk2 (by decide) rfl
theorem Mat.beside (h : Mat w b0 base V vs R r qs) (hb : b0 ≤ base) (hg : w.grownBy w' R.ownBlock) {R' : Value} {r' : List TermD} (ho : OwnT w' b0 base R' r') (hat : R'.ownBlock = R.ownBlock ∨ R'.ownBlock = some w.heap.size) : Mat w' b0 base V vs R' r' qs :=
 ⟨World.ownsRow.kept h.out hg (h.sepT (h.fam.own 0 (R, r) rfl)), h.len, by
  have := h.fam.app (i := 0) (p := (R, r)) (q := (R', r')) rfl hb hg ho hat
  simpa using this⟩
theorem Mat.inner (h : Mat w b0 base V vs R r qs) (hb : b0 ≤ base) {j : Nat} {v v' : Value} {qj q' : List TermD} (hv : vs[j]? = some v) (hq : qs[j]? = some qj) (hg : w.grownBy w' v.ownBlock) (ho : OwnT w' b0 base v' q') (hat : v'.ownBlock = v.ownBlock ∨ v'.ownBlock = some w.heap.size) :
    w'.ownsRow base 25 1 V vs.length vs ∧ Fam w' b0 base ((R, r) :: (vs.set j v').zip (qs.set j q')) := by
 refine ⟨World.ownsRow.kept h.out hg (h.sepT (h.fam.own (j + 1) (v, qj) (h.zip_at hv hq))), ?_⟩
 have := h.fam.app (i := j + 1) (p := (v, qj)) (q := (v', q')) (h.zip_at hv hq) hb hg ho hat
 rw [List.set_cons_succ] at this
 rw [zip_set] at this
 exact this
theorem Mat.store {G n c : Nat} (ho : w.ownsRow base 25 1 (.slice (some ⟨G, 0, none⟩) n c) n vs) (hn : n = vs.length) (hl : vs.length = qs.length) (hb : b0 ≤ base) {j : Nat} {v' : Value} {q' : List TermD} (hf : Fam w b0 base ((R, r) :: (vs.set j v').zip (qs.set j q'))) :
    Mat (w.setCell ⟨G, j, none⟩ v') b0 base (.slice (some ⟨G, 0, none⟩) n c) (vs.set j v') R r (qs.set j q') := by
 subst hn
 obtain ⟨⟨cs, hk⟩, hbg⟩ := own_bk ho (gp := G) rfl
 have h1 := (World.ownsRow.stored ho j v').1
 refine ⟨by rw [List.length_set]; exact h1, by rw [List.length_set, List.length_set, hl], hf.far (set_grown w ⟨G, j, none⟩ v') (fun g e => by cases e; exact ⟨Nat.le_trans hb hbg, _, _, hk, by decide⟩) fun i p hi => ?_⟩
 cases e : p.1.ownBlock with
 | none => exact .inl rfl
 | some g =>
   refine .inr fun e2 => ?_
   obtain ⟨_, _, ds, hk2⟩ := (hf.own i p hi).lt e
   injection e2 with e2
   exact Bk.ne_ hk hk2 (by decide) e2.symm
end
def subM (a b : MonD) : MonD := ⟨a.x0 - b.x0, a.x1 - b.x1, a.x2 - b.x2, a.x3 - b.x3⟩
def monDiv (a b : MonD) : Bool × MonD := if (monMay a && monMay b) = false then (false, zeroM) else if monMay (subM a b) = false then (false, zeroM) else (true, subM a b)
theorem div_1 (x y : Int) (w : World) (hx : 0 ≤ x ∧ x ≤ 40) (hy : 0 ≤ y ∧ y ≤ 40) : Calls Tryz.prog 168 #[.int .i64 x, .int .i64 y] w fun e w' => e = .returned (.int .i64 (x - y)) ∧ w = w' := by
 have h : IntKind.i64.wrap (x - y) = x - y := by rw [IntKind.wrap_i64]; omega
 go_enter Tryz.func168, Tryz.ntmps168
 go_wp2_with fail
 go_ret
 exact ⟨rfl, rfl⟩
theorem zip_div (a b z : MonD) (hz : z = ⟨a.x0 - b.x0, a.x1 - b.x1, a.x2 - b.x2, a.x3 - b.x3⟩) (w : World) (hma : monMay a = true) (hmb : monMay b = true) :
    Calls Tryz.prog 162 #[.agg #[.int .i64 a.x0, .int .i64 a.x1, .int .i64 a.x2, .int .i64 a.x3], .agg #[.int .i64 b.x0, .int .i64 b.x1, .int .i64 b.x2, .int .i64 b.x3], .func (.func 168) #[] #[]] w fun e w' => e = .returned (.agg #[.int .i64 (z).x0, .int .i64 (z).x1, .int .i64 (z).x2, .int .i64 (z).x3]) ∧ Blw w.heap.size w w' := by
 obtain ⟨ra0, ra1, ra2, ra3⟩ := monMay_of hma
 obtain ⟨rb0, rb1, rb2, rb3⟩ := monMay_of hmb
 have F0 := Hd.mk (fun W => div_1 a.x0 b.x0 W (by omega) (by omega))
 have F1 := Hd.mk (fun W => div_1 a.x1 b.x1 W (by omega) (by omega))
 have F2 := Hd.mk (fun W => div_1 a.x2 b.x2 W (by omega) (by omega))
 have F3 := Hd.mk (fun W => div_1 a.x3 b.x3 W (by omega) (by omega))
 have z0 : a.x0 - b.x0 = z.x0 := by rw [hz]
 have z1 : a.x1 - b.x1 = z.x1 := by rw [hz]
 have z2 : a.x2 - b.x2 = z.x2 := by rw [hz]
 have z3 : a.x3 - b.x3 = z.x3 := by rw [hz]
 rw [z0] at F0; rw [z1] at F1; rw [z2] at F2; rw [z3] at F3
 clear hz z0 z1 z2 z3 ra0 ra1 ra2 ra3 rb0 rb1 rb2 rb3 hma hmb
 go_enter Tryz.func162, Tryz.ntmps162
 go_upto_region 1 with (fail)
 refine wp_gen (fun W => ∃ g3, g3 = w.heap.size + 1 + 1 ∧ Bm2 w.heap.size w.heap.size (w.heap.size + 1) w W a b ∧ Bk W g3 66 #[.int .i64 (part z 0).x0, .int .i64 (part z 0).x1, .int .i64 (part z 0).x2, .int .i64 (part z 0).x3]) ⟨_, rfl, (Bm2.mk2 w a b).up ((Blw.refl _ _).alloc (Nat.le_refl _) _), by
  have := Bk.new_ ((w.alloc (Obj.cells #[.int .i64 a.x0, .int .i64 a.x1, .int .i64 a.x2, .int .i64 a.x3] 66)).alloc (Obj.cells #[.int .i64 b.x0, .int .i64 b.x1, .int .i64 b.x2, .int .i64 b.x3] 66)) 66 #[.int .i64 (part z 0).x0, .int .i64 (part z 0).x1, .int .i64 (part z 0).x2, .int .i64 (part z 0).x3]
  simpa [part] using this⟩ ?_
 rintro W ⟨⟨g3, hg3, BX, K3⟩⟩
 have n3 : w.heap.size ≤ g3 ∧ g3 ≠ w.heap.size ∧ g3 ≠ w.heap.size + 1 := by omega
 rw [← hg3]
 have BX := Hd.mk BX
 have K3 := Hd.mk K3
 clear hg3
 generalize w.heap.size + 1 = g2 at BX n3 ⊢
 obtain ⟨n3a, n3b, n3c⟩ := n3
 go_wp2_with fail
 go_loopw [8] (fun v8 wr => ∃ i : Nat, v8 = .int .i64 i ∧ i ≤ 4 ∧ Hd (Bm2 w.heap.size w.heap.size g2 w wr a b) ∧ Hd (Bk wr g3 66 #[.int .i64 (part z i).x0, .int .i64 (part z i).x1, .int .i64 (part z i).x2, .int .i64 (part z i).x3])) (fun v _ => 4 - (intOf v).toNat)
 case atStart => exact ⟨0, rfl, by omega, BX, K3⟩
 case round =>
  clear BX K3
  obtain ⟨i, rfl, hi, BX, K3⟩ := hrel
  obtain ⟨c0, c1, c2, c3⟩ := BX.out.k1.four
  obtain ⟨d0, d1, d2, d3⟩ := BX.out.k2.four
  rcases (show i = 0 ∨ i = 1 ∨ i = 2 ∨ i = 3 ∨ i = 4 by omega) with rfl | rfl | rfl | rfl | rfl
  ·have k3 : Bk wr g3 66 #[.int .i64 (part z 0).x0, .int .i64 (part z 0).x1, .int .i64 (part z 0).x2, .int .i64 (part z 0).x3] := K3.out
   obtain ⟨e0, e1, e2, e3⟩ := k3.four
   have fz := k3.froz 0
   clear k3
   go_wp2_with fail
   go_region_held3 (fun w' => Hd (Blw w.heap.size w w') ∧ w'.cell? ⟨w.heap.size, 0, none⟩ = some (.int .i64 a.x0) ∧ w'.cell? ⟨g2, 0, none⟩ = some (.int .i64 b.x0))
    (first
     | exact ⟨⟨BX.out.below⟩, c0, d0⟩
     | exact ⟨⟨(BX.out.dn 1).below⟩, c0, d0⟩
     | exact ⟨⟨(BX.out.dn 1).below.setCell n3a _⟩, (far1 rfl n3b).trans c0, (far1 rfl n3c).trans d0⟩)
    (first | (go_at_call 168; with_reducible refine (F0.out _).mono ?_; rintro e w4 ⟨rfl, rfl⟩))
   all_goals (
    go_wp2_with fail
    go_roundw
    case measure => first | (simp [intOf]; done) | (simp [intOf]; omega)
    case rel =>
     refine ⟨1, rfl, by omega, ⟨⟨(BX.out.dn 1).below.setCell n3a _, BX.out.s1, BX.out.s2, BX.out.n12, (BX.out.dn 1).k1.far n3b.symm _, (BX.out.dn 1).k2.far n3c.symm _⟩⟩, ⟨?_⟩⟩
     exact (show Bk wr.drew g3 66 #[.int .i64 (part z 0).x0, .int .i64 (part z 0).x1, .int .i64 (part z 0).x2, .int .i64 (part z 0).x3] from K3.out).set_ 0 (.int .i64 z.x0))
  ·have k3 : Bk wr g3 66 #[.int .i64 (part z 1).x0, .int .i64 (part z 1).x1, .int .i64 (part z 1).x2, .int .i64 (part z 1).x3] := K3.out
   obtain ⟨e0, e1, e2, e3⟩ := k3.four
   have fz := k3.froz 1
   clear k3
   go_wp2_with fail
   go_region_held3 (fun w' => Hd (Blw w.heap.size w w') ∧ w'.cell? ⟨w.heap.size, 1, none⟩ = some (.int .i64 a.x1) ∧ w'.cell? ⟨g2, 1, none⟩ = some (.int .i64 b.x1))
    (first
     | exact ⟨⟨BX.out.below⟩, c1, d1⟩
     | exact ⟨⟨(BX.out.dn 1).below⟩, c1, d1⟩
     | exact ⟨⟨(BX.out.dn 1).below.setCell n3a _⟩, (far1 rfl n3b).trans c1, (far1 rfl n3c).trans d1⟩)
    (first | (go_at_call 168; with_reducible refine (F1.out _).mono ?_; rintro e w4 ⟨rfl, rfl⟩))
   all_goals (
    go_wp2_with fail
    go_roundw
    case measure => first | (simp [intOf]; done) | (simp [intOf]; omega)
    case rel =>
     refine ⟨2, rfl, by omega, ⟨⟨(BX.out.dn 1).below.setCell n3a _, BX.out.s1, BX.out.s2, BX.out.n12, (BX.out.dn 1).k1.far n3b.symm _, (BX.out.dn 1).k2.far n3c.symm _⟩⟩, ⟨?_⟩⟩
     exact (show Bk wr.drew g3 66 #[.int .i64 (part z 1).x0, .int .i64 (part z 1).x1, .int .i64 (part z 1).x2, .int .i64 (part z 1).x3] from K3.out).set_ 1 (.int .i64 z.x1))
  ·have k3 : Bk wr g3 66 #[.int .i64 (part z 2).x0, .int .i64 (part z 2).x1, .int .i64 (part z 2).x2, .int .i64 (part z 2).x3] := K3.out
   obtain ⟨e0, e1, e2, e3⟩ := k3.four
   have fz := k3.froz 2
   clear k3
   go_wp2_with fail
   go_region_held3 (fun w' => Hd (Blw w.heap.size w w') ∧ w'.cell? ⟨w.heap.size, 2, none⟩ = some (.int .i64 a.x2) ∧ w'.cell? ⟨g2, 2, none⟩ = some (.int .i64 b.x2))
    (first
     | exact ⟨⟨BX.out.below⟩, c2, d2⟩
     | exact ⟨⟨(BX.out.dn 1).below⟩, c2, d2⟩
     | exact ⟨⟨(BX.out.dn 1).below.setCell n3a _⟩, (far1 rfl n3b).trans c2, (far1 rfl n3c).trans d2⟩)
    (first | (go_at_call 168; with_reducible refine (F2.out _).mono ?_; rintro e w4 ⟨rfl, rfl⟩))
   all_goals (
    go_wp2_with fail
    go_roundw
    case measure => first | (simp [intOf]; done) | (simp [intOf]; omega)
    case rel =>
     refine ⟨3, rfl, by omega, ⟨⟨(BX.out.dn 1).below.setCell n3a _, BX.out.s1, BX.out.s2, BX.out.n12, (BX.out.dn 1).k1.far n3b.symm _, (BX.out.dn 1).k2.far n3c.symm _⟩⟩, ⟨?_⟩⟩
     exact (show Bk wr.drew g3 66 #[.int .i64 (part z 2).x0, .int .i64 (part z 2).x1, .int .i64 (part z 2).x2, .int .i64 (part z 2).x3] from K3.out).set_ 2 (.int .i64 z.x2))
  ·have k3 : Bk wr g3 66 #[.int .i64 (part z 3).x0, .int .i64 (part z 3).x1, .int .i64 (part z 3).x2, .int .i64 (part z 3).x3] := K3.out
   obtain ⟨e0, e1, e2, e3⟩ := k3.four
   have fz := k3.froz 3
   clear k3
   go_wp2_with fail
   go_region_held3 (fun w' => Hd (Blw w.heap.size w w') ∧ w'.cell? ⟨w.heap.size, 3, none⟩ = some (.int .i64 a.x3) ∧ w'.cell? ⟨g2, 3, none⟩ = some (.int .i64 b.x3))
    (first
     | exact ⟨⟨BX.out.below⟩, c3, d3⟩
     | exact ⟨⟨(BX.out.dn 1).below⟩, c3, d3⟩
     | exact ⟨⟨(BX.out.dn 1).below.setCell n3a _⟩, (far1 rfl n3b).trans c3, (far1 rfl n3c).trans d3⟩)
    (first | (go_at_call 168; with_reducible refine (F3.out _).mono ?_; rintro e w4 ⟨rfl, rfl⟩))
   all_goals (
    go_wp2_with fail
    go_roundw
    case measure => first | (simp [intOf]; done) | (simp [intOf]; omega)
    case rel =>
     refine ⟨4, rfl, by omega, ⟨⟨(BX.out.dn 1).below.setCell n3a _, BX.out.s1, BX.out.s2, BX.out.n12, (BX.out.dn 1).k1.far n3b.symm _, (BX.out.dn 1).k2.far n3c.symm _⟩⟩, ⟨?_⟩⟩
     exact (show Bk wr.drew g3 66 #[.int .i64 (part z 3).x0, .int .i64 (part z 3).x1, .int .i64 (part z 3).x2, .int .i64 (part z 3).x3] from K3.out).set_ 3 (.int .i64 z.x3))
  ·have k3 : Bk wr g3 66 #[.int .i64 (z).x0, .int .i64 (z).x1, .int .i64 (z).x2, .int .i64 (z).x3] := K3.out
   obtain ⟨e0, e1, e2, e3⟩ := k3.four
   have fz := fun i => k3.froz i
   have K4 := Hd.mk k3
   clear k3 K3
   go_wp2_with fail
   refine bodyPost_ret (res_mono rfl _ _ g3 _ rfl (K4.out.set4 _ _ _ _) rfl) rfl ?_
   exact ⟨rfl, (((BX.out.below.setCell n3a _).setCell n3a _).setCell n3a _).setCell n3a _⟩
theorem mono_Div (a b : MonD) (w : World) :
    Calls Tryz.prog 94 #[.agg #[.int .i64 a.x0, .int .i64 a.x1, .int .i64 a.x2, .int .i64 a.x3], .agg #[.int .i64 b.x0, .int .i64 b.x1, .int .i64 b.x2, .int .i64 b.x3]] w fun e w' =>
     e = .returned (.tuple #[.agg #[.int .i64 (monDiv a b).2.x0, .int .i64 (monDiv a b).2.x1, .int .i64 (monDiv a b).2.x2, .int .i64 (monDiv a b).2.x3], .bool (monDiv a b).1]) ∧ Blw w.heap.size w w' := by
 obtain ⟨E, hE⟩ : ∃ E, monDiv a b = E := ⟨_, rfl⟩
 rw [hE]
 have HEQ := Hd.mk hE
 clear hE
 go_enter Tryz.func94, Tryz.ntmps94
 go_upto_region 1 with (fail)
 refine wp_gen (fun W => Bm3 w.heap.size w.heap.size (w.heap.size + 1) (w.heap.size + 1 + 1) w W a b zeroM) (Bm3.mk3 w a b zeroM) ?_
 intro W BX
 generalize w.heap.size + 1 + 1 = g3 at BX ⊢
 generalize w.heap.size + 1 = g2 at BX ⊢
 obtain ⟨c0, c1, c2, c3⟩ := BX.out.bm.k1.four
 have CA := Hd.mk (mono_May a W)
 cases hma : monMay a
 ·have HE : Hd (monDiv a b = (false, zeroM)) := ⟨by unfold monDiv; rw [hma]; rfl⟩
  rw [hma] at CA
  go_wp2_with fail
  refine CA.out.mono ?_
  rintro e w4 ⟨rfl, hb⟩
  have BX4 := Hd.mk (BX.out.up hb)
  obtain ⟨e0, e1, e2, e3⟩ := BX4.out.k3.four
  have fz := fun i => BX4.out.k3.froz i
  clear hb
  go_wp2_with fail
  obtain ⟨d1, d2⟩ := BX4.out.done (.int .i64 0) (.int .i64 0) (.int .i64 0) (.int .i64 0)
  refine bodyPost_ret (res_mono2 rfl _ _ g3 _ rfl d1 rfl) rfl ?_
  have h5 := HEQ.out.symm.trans HE.out
  subst h5
  exact ⟨rfl, d2⟩
 ·rw [hma] at CA
  go_wp2_with fail
  refine CA.out.mono ?_
  rintro e w4 ⟨rfl, hb⟩
  have BX4 := Hd.mk (BX.out.up hb)
  obtain ⟨p0, p1, p2, p3⟩ := BX4.out.bm.k2.four
  have CB := Hd.mk (mono_May b w4)
  clear hb c0 c1 c2 c3 BX CA
  cases hmb : monMay b
  ·have HE : Hd (monDiv a b = (false, zeroM)) := ⟨by unfold monDiv; rw [hmb]; simp⟩
   rw [hmb] at CB
   go_wp2_with fail
   refine CB.out.mono ?_
   rintro e w5 ⟨rfl, hb⟩
   have BX5 := Hd.mk (BX4.out.up hb)
   obtain ⟨e0, e1, e2, e3⟩ := BX5.out.k3.four
   have fz := fun i => BX5.out.k3.froz i
   clear hb
   go_wp2_with fail
   obtain ⟨d1, d2⟩ := BX5.out.done (.int .i64 0) (.int .i64 0) (.int .i64 0) (.int .i64 0)
   refine bodyPost_ret (res_mono2 rfl _ _ g3 _ rfl d1 rfl) rfl ?_
   have h5 := HEQ.out.symm.trans HE.out
   subst h5
   exact ⟨rfl, d2⟩
  ·rw [hmb] at CB
   have HE : Hd (monDiv a b = if monMay (subM a b) = false then (false, zeroM) else (true, subM a b)) := ⟨by unfold monDiv; rw [hma, hmb]; rfl⟩
   obtain ⟨z, hz⟩ : ∃ z, z = subM a b := ⟨_, rfl⟩
   rw [← hz] at HE
   have ZP := Hd.mk (fun W => zip_div a b z hz W hma hmb)
   clear hma hmb hz
   go_wp2_with fail
   refine CB.out.mono ?_
   rintro e w5 ⟨rfl, hb⟩
   have BX5 := Hd.mk (BX4.out.up hb)
   obtain ⟨c0, c1, c2, c3⟩ := BX5.out.bm.k1.four
   obtain ⟨p0, p1, p2, p3⟩ := BX5.out.bm.k2.four
   clear hb CB
   go_wp2_with fail
   refine (ZP.out w5).mono ?_
   rintro e w6 ⟨rfl, hb⟩
   have BX6 := Hd.mk (BX5.out.up hb)
   clear hb ZP
   go_upto_region 4 with (fail)
   refine wp_gen (fun W => Bm3 w.heap.size w.heap.size g2 g3 w W a b zeroM ∧ Bk W w6.heap.size 66 #[.int .i64 z.x0, .int .i64 z.x1, .int .i64 z.x2, .int .i64 z.x3]) ⟨BX6.out.up ((Blw.refl _ _).alloc (Nat.le_refl _) _), Bk.new_ _ _ _⟩ ?_
   intro W7 BY
   generalize w6.heap.size = g4 at BY ⊢
   obtain ⟨q0, q1, q2, q3⟩ := BY.out.2.four
   have CM := Hd.mk (mono_May z W7)
   cases hmz : monMay z
   ·rw [hmz] at CM HE
    go_wp2_with fail
    refine CM.out.mono ?_
    rintro e w8 ⟨rfl, hb⟩
    have BX8 := Hd.mk (BY.out.1.up hb)
    obtain ⟨e0, e1, e2, e3⟩ := BX8.out.k3.four
    have fz := fun i => BX8.out.k3.froz i
    clear hb
    go_wp2_with fail
    obtain ⟨d1, d2⟩ := BX8.out.done (.int .i64 0) (.int .i64 0) (.int .i64 0) (.int .i64 0)
    refine bodyPost_ret (res_mono2 rfl _ _ g3 _ rfl d1 rfl) rfl ?_
    have h5 := HEQ.out.symm.trans HE.out
    simp only [if_pos] at h5
    subst h5
    exact ⟨rfl, d2⟩
   ·rw [hmz] at CM HE
    go_wp2_with fail
    refine CM.out.mono ?_
    rintro e w8 ⟨rfl, hb⟩
    have BX8 := Hd.mk (BY.out.1.up hb)
    have K8 := Hd.mk (BY.out.2.up hb.lo)
    obtain ⟨q0, q1, q2, q3⟩ := K8.out.four
    obtain ⟨e0, e1, e2, e3⟩ := BX8.out.k3.four
    have fz := fun i => BX8.out.k3.froz i
    clear hb
    go_wp2_with fail
    obtain ⟨d1, d2⟩ := BX8.out.done (.int .i64 z.x0) (.int .i64 z.x1) (.int .i64 z.x2) (.int .i64 z.x3)
    refine bodyPost_ret (res_mono2 rfl _ _ g3 _ rfl d1 rfl) rfl ?_
    have h5 := HEQ.out.symm.trans HE.out
    simp at h5
    subst h5
    exact ⟨rfl, d2⟩
end Go.Proofs.YtgjkgkgieeoalaaGreat
