/- Parts of the proof, joined: each theorem says what it shows. -/
import Derived.Test.YtgjkgkgieeoalaaGreatE01
import Derived.Test.YtgjkgkgieeoalaaGreatE02
import Derived.Test.YtgjkgkgieeoalaaGreatE03
import Derived.Laws.EntriesVeiled
import Derived.WideLaws
set_option linter.unusedVariables false
set_option linter.unusedSimpArgs false
set_option maxHeartbeats 24000000
set_option maxRecDepth 100000
namespace Go.Proofs.YtgjkgkgieeoalaaGreat
open Go.RowKit
structure MonD where
 x0 : Int
 x1 : Int
 x2 : Int
 x3 : Int
deriving DecidableEq
def MonD.l (m : MonD) : List Int := [m.x0, m.x1, m.x2, m.x3]
def badE (x : Int) : Bool := decide (x < 0) || decide (40 < x)
def monMay (m : MonD) : Bool := !(m.l.any badE)
theorem monMay_of {m : MonD} (h : monMay m = true) : (0 ≤ m.x0 ∧ m.x0 ≤ 40) ∧ (0 ≤ m.x1 ∧ m.x1 ≤ 40) ∧ (0 ≤ m.x2 ∧ m.x2 ≤ 40) ∧ (0 ≤ m.x3 ∧ m.x3 ≤ 40) := by
 simp only [monMay, MonD.l, List.any_cons, List.any_nil, badE, Bool.or_false, Bool.not_eq_true', Bool.or_eq_false_iff, decide_eq_false_iff_not] at h
 omega
theorem May_1 (x : Int) (w : World) : Calls Tryz.prog 224 #[.int .i64 x] w fun e w' => e = .returned (.bool (badE x)) ∧ w = w' := by
 by_cases h1 : x < 0
 ·have e1 : decide (x < 0) = true := decide_eq_true h1
  have hb : Hd (badE x = true) := ⟨by unfold badE; rw [e1]; rfl⟩
  go_enter Tryz.func224, Tryz.ntmps224
  go_wp2_with fail
  go_ret
  exact ⟨retBool hb.out.symm, rfl⟩
 ·have e1 : decide (x < 0) = false := decide_eq_false h1
  by_cases h2 : 40 < x
  ·have e2 : decide (40 < x) = true := decide_eq_true h2
   have hb : Hd (badE x = true) := ⟨by unfold badE; rw [e1, e2]; rfl⟩
   go_enter Tryz.func224, Tryz.ntmps224
   go_wp2_with fail
   go_ret
   exact ⟨retBool hb.out.symm, rfl⟩
  ·have e2 : decide (40 < x) = false := decide_eq_false h2
   have hb : Hd (badE x = false) := ⟨by unfold badE; rw [e1, e2]; rfl⟩
   go_enter Tryz.func224, Tryz.ntmps224
   go_wp2_with fail
   go_ret
   exact ⟨retBool hb.out.symm, rfl⟩
theorem index_badE (A : Option Addr) (c : Nat) (l : List Int) (w : World) (h : RdI w .i64 A l) (hn : l.length ≤ c) (h6 : l.length ≤ 100000000) :
    Calls Tryz.prog 208 #[.slice A l.length c, .func (.func 224) #[] #[]] w fun e w' => ∃ i : Int, e = .returned (.int .i64 i) ∧ decide (0 ≤ i) = l.any badE ∧ w = w' := by
 have H := aa h
 clear h
 go_enter Tryz.func208, Tryz.ntmps208
 go_wp2_with fail
 go_loop [8] (fun v => ∃ i : Nat, v = .int .i64 i ∧ i ≤ l.length ∧ Hd ((l.take i).any badE = false)) (fun v => l.length - (intOf v).toNat)
 case atStart => exact ⟨0, rfl, by omega, ⟨rfl⟩⟩
 case round =>
  obtain ⟨i, rfl, hi, ht⟩ := hrel
  by_cases hlt : i < l.length
  ·obtain ⟨ad, x, rfl, _, hx, hcell⟩ := H.out.get hlt
   have i2 : (i : Int) < l.length := by omega
   have hsn : Hd ((l.take (i + 1)).any badE = ((l.take i).any badE || badE x)) := ⟨by rw [take_snoc hlt, List.any_append, hx.out]; simp⟩
   have CB := aa (May_1 x w)
   cases h8 : badE x
   ·rw [h8] at CB hsn
    clear h8
    go_wp2_with fail
    refine CB.out.mono ?_
    rintro e w' ⟨rfl, rfl⟩
    go_wp2_with fail
    go_round
    case measure => first | (simp [intOf]; done) | (simp [intOf]; omega)
    case rel => exact ⟨i + 1, by go_num, by omega, ⟨by rw [hsn.out, ht.out]; rfl⟩⟩
   ·rw [h8] at CB hsn
    clear h8
    go_wp2_with fail
    refine CB.out.mono ?_
    rintro e w' ⟨rfl, rfl⟩
    go_wp2_with fail
    go_ret
    refine ⟨_, rfl, ?_, rfl⟩
    have h1 := hsn.out
    rw [Bool.or_true] at h1
    rw [decide_eq_true (by omega : (0 : Int) ≤ i)]
    conv => rhs; rw [← List.take_append_drop (i + 1) l]
    rw [List.any_append, h1]; rfl
  ·have hie : i = l.length := by omega
   subst hie
   go_wp2_with fail
   go_ret
   refine ⟨_, rfl, ?_, rfl⟩
   have := ht.out
   rw [List.take_length] at this
   rw [this]; rfl
theorem arr_new (w : World) (m : MonD) (t : TypeId) : RdI (w.alloc (.cells #[.int .i64 m.x0, .int .i64 m.x1, .int .i64 m.x2, .int .i64 m.x3] t)) .i64 (some ⟨w.heap.size, 0, none⟩) m.l := by
 have := Rd.new_ w #[.int .i64 m.x0, .int .i64 m.x1, .int .i64 m.x2, .int .i64 m.x3] t 4 1 rfl
 unfold RdI
 rw [show (w.alloc (.cells #[.int .i64 m.x0, .int .i64 m.x1, .int .i64 m.x2, .int .i64 m.x3] t)).heap.size = w.heap.size + 1 by simp]
 exact this
theorem mono_May (m : MonD) (w : World) :
    Calls Tryz.prog 161 #[.agg #[.int .i64 m.x0, .int .i64 m.x1, .int .i64 m.x2, .int .i64 m.x3]] w fun e w' => e = .returned (.bool (monMay m)) ∧ Blw w.heap.size w w' := by
 have hb : Hd (Blw w.heap.size w (w.alloc (.cells #[.int .i64 m.x0, .int .i64 m.x1, .int .i64 m.x2, .int .i64 m.x3] 66))) := ⟨(Blw.refl _ _).alloc (ae _) _⟩
 have hi := aa (index_badE (some ⟨w.heap.size, 0, none⟩) 4 m.l _ (arr_new w m 66) (ae _) (by simp [MonD.l]))
 have hc : Calls Tryz.prog 128 #[.slice (some ⟨w.heap.size, 0, none⟩) 4 4, .func (.func 224) #[] #[]] (w.alloc (.cells #[.int .i64 m.x0, .int .i64 m.x1, .int .i64 m.x2, .int .i64 m.x3] 66)) fun e w' => e = .returned (.bool (m.l.any badE)) ∧ (w.alloc (.cells #[.int .i64 m.x0, .int .i64 m.x1, .int .i64 m.x2, .int .i64 m.x3] 66)) = w' := by
  go_enter Tryz.func128, Tryz.ntmps128
  go_wp2_with fail
  refine hi.out.mono ?_
  rintro e w' ⟨i, rfl, hib, rfl⟩
  have HIB := aa hib
  clear hib
  go_wp2_with fail
  go_ret
  exact ⟨retBool HIB.out, rfl⟩
 have HC := aa hc
 clear hc
 go_enter Tryz.func161, Tryz.ntmps161
 go_wp2_with fail
 refine HC.out.mono ?_
 rintro e w' ⟨rfl, rfl⟩
 go_wp2_with fail
 go_ret
 exact ⟨rfl, hb.out⟩
def cmpI (x y : Int) : Int := if x < y then -1 else if y < x then 1 else 0
theorem cmp_Compare (x y : Int) (w : World) : Calls Tryz.prog 197 #[.int .i64 x, .int .i64 y] w fun e w' => e = .returned (.int .i64 (cmpI x y)) ∧ w = w' := by
 have N1 := aa (Tryz.cmp_isNaN_int x w)
 have N2 := aa (Tryz.cmp_isNaN_int y w)
 by_cases h1 : x < y
 ·have hc : Hd (cmpI x y = -1) := ⟨by unfold cmpI; rw [if_pos h1]⟩
  go_enter Tryz.func197, Tryz.ntmps197
  go_wp2_with fail
  refine N1.out.mono ?_
  rintro e w' ⟨rfl, rfl⟩
  go_wp2_with fail
  refine N2.out.mono ?_
  rintro e w' ⟨rfl, rfl⟩
  go_wp2_with fail
  go_ret
  exact ⟨retInt hc.out.symm, rfl⟩
 ·by_cases h2 : y < x
  ·have hc : Hd (cmpI x y = 1) := ⟨by unfold cmpI; rw [if_neg h1, if_pos h2]⟩
   go_enter Tryz.func197, Tryz.ntmps197
   go_wp2_with fail
   refine N1.out.mono ?_
   rintro e w' ⟨rfl, rfl⟩
   go_wp2_with fail
   refine N2.out.mono ?_
   rintro e w' ⟨rfl, rfl⟩
   go_wp2_with fail
   go_ret
   exact ⟨retInt hc.out.symm, rfl⟩
  ·have hc : Hd (cmpI x y = 0) := ⟨by unfold cmpI; rw [if_neg h1, if_neg h2]⟩
   go_enter Tryz.func197, Tryz.ntmps197
   go_wp2_with fail
   refine N1.out.mono ?_
   rintro e w' ⟨rfl, rfl⟩
   go_wp2_with fail
   refine N2.out.mono ?_
   rintro e w' ⟨rfl, rfl⟩
   go_wp2_with fail
   go_ret
   exact ⟨retInt hc.out.symm, rfl⟩
def lexC : List Int → List Int → Int
 | x :: l, y :: m => if cmpI x y ≠ 0 then cmpI x y else lexC l m
 | _, _ => 0
theorem slices_Compare (A B : Option Addr) (c d : Nat) (l m : List Int) (w : World) (h : RdI w .i64 A l) (hn : l.length ≤ c) (h' : RdI w .i64 B m) (hn' : m.length ≤ d) (hl : l.length = m.length) (h9 : l.length ≤ 1000000) :
    Calls Tryz.prog 193 #[.slice A l.length c, .slice B m.length d] w fun e w' => e = .returned (.int .i64 (lexC l m)) ∧ w = w' := by
 have HL := aa hl
 have H := aa h
 have H' := aa h'
 clear h h' hl
 go_enter Tryz.func193, Tryz.ntmps193
 go_wp2_with fail
 go_loop [11] (fun v => ∃ i : Nat, v = .int .i64 i ∧ i ≤ l.length ∧ Hd (lexC l m = lexC (l.drop i) (m.drop i))) (fun v => l.length - (intOf v).toNat)
 case atStart => exact ⟨0, rfl, by omega, ⟨rfl⟩⟩
 case round =>
  obtain ⟨i, rfl, hi, ht⟩ := hrel
  by_cases hlt : i < l.length
  ·have hlt2 : i < m.length := by have := HL.out; omega
   obtain ⟨ad, x, rfl, _, hx, hcx⟩ := H.out.get hlt
   obtain ⟨bd, y, rfl, _, hy, hcy⟩ := H'.out.get hlt2
   have i1 : (i : Int) < m.length := by omega
   have i2 : (i : Int) < l.length := by omega
   have CC := aa (cmp_Compare x y w)
   have hst : Hd (lexC (l.drop i) (m.drop i) = if cmpI x y ≠ 0 then cmpI x y else lexC (l.drop (i + 1)) (m.drop (i + 1))) := ⟨by rw [drop_at hlt, drop_at hlt2, hx.out, hy.out, lexC]⟩
   obtain ⟨k, hk⟩ : ∃ k, cmpI x y = k := ⟨_, rfl⟩
   rw [hk] at CC hst
   clear hk
   by_cases hk0 : k = 0
   ·subst hk0
    go_wp2_with fail
    refine CC.out.mono ?_
    rintro e w' ⟨rfl, rfl⟩
    go_wp2_with fail
    go_round
    case measure => first | (simp [intOf]; done) | (simp [intOf]; omega)
    case rel => exact ⟨i + 1, by go_num, by omega, ⟨by rw [ht.out, hst.out]; rfl⟩⟩
   ·have hk1 : (k != 0) = true := by rw [bne_iff_ne]; exact hk0
    go_wp2_with fail
    refine CC.out.mono ?_
    rintro e w' ⟨rfl, rfl⟩
    go_wp2_with fail
    go_ret
    refine ⟨retInt ?_, rfl⟩
    rw [ht.out, hst.out, if_pos hk0]
  ·have hie : i = l.length := by omega
   subst hie
   have hr : ¬ ((l.length : Int) < m.length) := by have := HL.out; omega
   go_wp2_with fail
   go_ret
   refine ⟨retInt ?_, rfl⟩
   rw [ht.out, List.drop_length]; rfl
theorem put_eq {K : Act → World → Prop} {a : Act} {d : Option Tmp} {v u : Value} {w : World} (e : v = u) (h : K (a.put d u) w) : K (a.put d v) w := e ▸ h
def preS (m : MonD) : Nat → Int
 | 0 => 0
 | 1 => m.x0
 | 2 => m.x0 + m.x1
 | 3 => m.x0 + m.x1 + m.x2
 | _ => m.x0 + m.x1 + m.x2 + m.x3
def monDeg (m : MonD) : Int := if monMay m then m.x0 + m.x1 + m.x2 + m.x3 else 0
theorem mono_Degree (m : MonD) (w : World) :
    Calls Tryz.prog 198 #[.agg #[.int .i64 m.x0, .int .i64 m.x1, .int .i64 m.x2, .int .i64 m.x3]] w fun e w' => e = .returned (.int .i64 (monDeg m)) ∧ Blw w.heap.size w w' := by
 have hb : Hd (Blw w.heap.size w (w.alloc (.cells #[.int .i64 m.x0, .int .i64 m.x1, .int .i64 m.x2, .int .i64 m.x3] 66))) := ⟨(Blw.refl _ _).alloc (ae _) _⟩
 have CM := aa (mono_May m (w.alloc (.cells #[.int .i64 m.x0, .int .i64 m.x1, .int .i64 m.x2, .int .i64 m.x3] 66)))
 have k1 := aa (Bk.new_ w 66 #[.int .i64 m.x0, .int .i64 m.x1, .int .i64 m.x2, .int .i64 m.x3])
 cases hm : monMay m
 ·rw [hm] at CM
  have HD : Hd (monDeg m = 0) := ⟨by unfold monDeg; rw [hm]; rfl⟩
  clear hm
  go_enter Tryz.func198, Tryz.ntmps198
  go_wp2_with fail
  refine CM.out.mono ?_
  rintro e w2 ⟨rfl, hb2⟩
  have HB := aa (hb.out.trans (hb2.mono hb.out.size))
  clear hb2
  go_wp2_with fail
  go_ret
  exact ⟨retInt HD.out.symm, HB.out⟩
 ·rw [hm] at CM
  have HD : Hd (monDeg m = m.x0 + m.x1 + m.x2 + m.x3) := ⟨by unfold monDeg; rw [hm]; rfl⟩
  obtain ⟨b0, b1, b2, b3⟩ := monMay_of hm
  clear hm
  go_enter Tryz.func198, Tryz.ntmps198
  go_wp2_with fail
  refine CM.out.mono ?_
  rintro e w2 ⟨rfl, hb2⟩
  have HB := aa (hb.out.trans (hb2.mono hb.out.size))
  have k2 := k1.out.up hb2.lo
  have c0 : w2.cell? ⟨w.heap.size, 0, none⟩ = some (.int .i64 m.x0) := by rw [k2.cell]; rfl
  have c1 : w2.cell? ⟨w.heap.size, 1, none⟩ = some (.int .i64 m.x1) := by rw [k2.cell]; rfl
  have c2 : w2.cell? ⟨w.heap.size, 2, none⟩ = some (.int .i64 m.x2) := by rw [k2.cell]; rfl
  have c3 : w2.cell? ⟨w.heap.size, 3, none⟩ = some (.int .i64 m.x3) := by rw [k2.cell]; rfl
  clear hb2 k2
  go_wp2_with fail
  go_loop [2, 9] (fun v2 v9 => ∃ i : Nat, v9 = .int .i64 i ∧ v2 = .int .i64 (preS m i) ∧ i ≤ 4) (fun _ v => 4 - (intOf v).toNat)
  case atStart => exact ⟨0, rfl, rfl, by omega⟩
  case round =>
   obtain ⟨i, rfl, rfl, hi⟩ := hrel
   rcases (show i = 0 ∨ i = 1 ∨ i = 2 ∨ i = 3 ∨ i = 4 by omega) with rfl | rfl | rfl | rfl | rfl
   ·simp only [preS]
    go_wp2_with fail
    refine put_eq (u := .int .i64 m.x0) rfl ?_
    go_wp2_with fail
    go_round
    case measure => first | (simp [intOf]; done) | (simp [intOf]; omega)
    case rel => exact ⟨1, rfl, by simp [preS], by omega⟩
   ·simp only [preS]
    go_wp2_with fail
    refine put_eq (u := .int .i64 m.x1) rfl ?_
    go_wp2_with fail
    go_round
    case measure => first | (simp [intOf]; done) | (simp [intOf]; omega)
    case rel => exact ⟨2, rfl, by simp [preS], by omega⟩
   ·simp only [preS]
    go_wp2_with fail
    refine put_eq (u := .int .i64 m.x2) rfl ?_
    go_wp2_with fail
    go_round
    case measure => first | (simp [intOf]; done) | (simp [intOf]; omega)
    case rel => exact ⟨3, rfl, by simp [preS], by omega⟩
   ·simp only [preS]
    go_wp2_with fail
    refine put_eq (u := .int .i64 m.x3) rfl ?_
    go_wp2_with fail
    go_round
    case measure => first | (simp [intOf]; done) | (simp [intOf]; omega)
    case rel => exact ⟨4, rfl, by simp [preS], by omega⟩
   ·simp only [preS]
    go_wp2_with fail
    go_ret
    exact ⟨retInt HD.out.symm, HB.out⟩
theorem cmp_Or2 (a b : Int) (A : Option Addr) (c : Nat) (w : World) (h : RdI w .i64 A [a, b]) :
    Calls Tryz.prog 196 #[.slice A 2 c] w fun e w' => e = .returned (.int .i64 (if a ≠ 0 then a else b)) ∧ w = w' := by
 obtain ⟨ad, x, rfl, _, hx, hc0⟩ := h.get (i := 0) (by simp)
 obtain ⟨ad', y, hA, _, hy, hc1⟩ := h.get (i := 1) (by simp)
 injection hA with hA
 subst hA
 have h0 : w.cell? ad = some (.int .i64 x) := by simpa [Addr.add] using hc0
 have h1 : w.cell? ⟨ad.block, ad.off + 1, none⟩ = some (.int .i64 y) := by simpa [Addr.add] using hc1
 obtain rfl : a = x := hx.out
 obtain rfl : b = y := hy.out
 clear hx hy
 by_cases ha : a = 0
 ·subst ha
  by_cases hb : b = 0
  ·subst hb
   go_enter Tryz.func196, Tryz.ntmps196
   go_wp2_with fail
   go_loop [8] (fun v => ∃ i : Nat, v = .int .i64 i ∧ i ≤ 2) (fun v => 2 - (intOf v).toNat)
   case atStart => exact ⟨0, rfl, by omega⟩
   case round =>
    obtain ⟨i, rfl, hi⟩ := hrel
    rcases (show i = 0 ∨ i = 1 ∨ i = 2 by omega) with rfl | rfl | rfl
    ·go_wp2_with fail
     go_round
     case measure => first | (simp [intOf]; done) | (simp [intOf]; omega)
     case rel => exact ⟨1, rfl, by omega⟩
    ·go_wp2_with fail
     go_round
     case measure => first | (simp [intOf]; done) | (simp [intOf]; omega)
     case rel => exact ⟨2, rfl, by omega⟩
    ·go_wp2_with fail
     go_ret
     exact ⟨rfl, rfl⟩
  ·have hb2 : (b != 0) = true := by rw [bne_iff_ne]; exact hb
   go_enter Tryz.func196, Tryz.ntmps196
   go_wp2_with fail
   go_loop [8] (fun v => ∃ i : Nat, v = .int .i64 i ∧ i ≤ 1) (fun v => 2 - (intOf v).toNat)
   case atStart => exact ⟨0, rfl, by omega⟩
   case round =>
    obtain ⟨i, rfl, hi⟩ := hrel
    rcases (show i = 0 ∨ i = 1 by omega) with rfl | rfl
    ·go_wp2_with fail
     go_round
     case measure => first | (simp [intOf]; done) | (simp [intOf]; omega)
     case rel => exact ⟨1, rfl, by omega⟩
    ·go_wp2_with fail
     go_ret
     exact ⟨rfl, rfl⟩
 ·have ha2 : (a != 0) = true := by rw [bne_iff_ne]; exact ha
  go_enter Tryz.func196, Tryz.ntmps196
  go_wp2_with fail
  go_loop [8] (fun v => ∃ i : Nat, v = .int .i64 i ∧ i = 0) (fun v => 2 - (intOf v).toNat)
  case atStart => exact ⟨0, rfl, by omega⟩
  case round =>
   obtain ⟨i, rfl, rfl⟩ := hrel
   go_wp2_with fail
   go_ret
   exact ⟨rfl, rfl⟩
structure Bm2 (S g1 g2 : Nat) (w0 w : World) (a b : MonD) : Prop where
 below : Blw S w0 w
 s1 : S ≤ g1
 s2 : S ≤ g2
 n12 : g1 ≠ g2
 k1 : Bk w g1 66 #[.int .i64 a.x0, .int .i64 a.x1, .int .i64 a.x2, .int .i64 a.x3]
 k2 : Bk w g2 66 #[.int .i64 b.x0, .int .i64 b.x1, .int .i64 b.x2, .int .i64 b.x3]
section
variable {S g1 g2 : Nat} {w0 w w' : World} {a b : MonD}
theorem Bm2.up (h : Bm2 S g1 g2 w0 w a b) (hb : Blw w.heap.size w w') : Bm2 S g1 g2 w0 w' a b :=
 ⟨h.below.trans (hb.mono (ah h.s1 (Nat.le_of_lt h.k1.lt))), h.s1, h.s2, h.n12, h.k1.up hb.lo, h.k2.up hb.lo⟩
theorem Bm2.dn (h : Bm2 S g1 g2 w0 w a b) (n : Nat) : Bm2 S g1 g2 w0 (w.drewN n) a b := ⟨Blw.dn h.below n, h.s1, h.s2, h.n12, h.k1, h.k2⟩
theorem Bm2.mk2 (w : World) (a b : MonD) : Bm2 w.heap.size w.heap.size (w.heap.size + 1) w ((w.alloc (Obj.cells #[.int .i64 a.x0, .int .i64 a.x1, .int .i64 a.x2, .int .i64 a.x3] 66)).alloc (Obj.cells #[.int .i64 b.x0, .int .i64 b.x1, .int .i64 b.x2, .int .i64 b.x3] 66)) a b := by
 refine ⟨((Blw.refl _ _).alloc (ae _) _).alloc (by simp) _, ae _, by omega, by omega, (Bk.new_ _ _ _).al _, ?_⟩
 have := Bk.new_ (w.alloc (Obj.cells #[.int .i64 a.x0, .int .i64 a.x1, .int .i64 a.x2, .int .i64 a.x3] 66)) 66 #[.int .i64 b.x0, .int .i64 b.x1, .int .i64 b.x2, .int .i64 b.x3]
 simpa using this
theorem Bk.mono {g : Nat} {t : TypeId} (h : Bk w g t #[.int .i64 a.x0, .int .i64 a.x1, .int .i64 a.x2, .int .i64 a.x3]) : RdI w .i64 (some ⟨g, 0, none⟩) a.l := by
 refine ⟨by simp [ints], fun _ => ⟨_, rfl, h.lt, fun j u hu => ?_⟩⟩
 rw [add_win, Nat.zero_add, h.cell]
 have : (#[Value.int .i64 a.x0, .int .i64 a.x1, .int .i64 a.x2, .int .i64 a.x3] : Array Value) = (ints .i64 a.l).toArray := rfl
 rw [this]
 simpa using hu
theorem Bk.four {g : Nat} {t : TypeId} {v0 v1 v2 v3 : Value} (h : Bk w g t #[v0, v1, v2, v3]) : w.cell? ⟨g, 0, none⟩ = some v0 ∧ w.cell? ⟨g, 1, none⟩ = some v1 ∧ w.cell? ⟨g, 2, none⟩ = some v2 ∧ w.cell? ⟨g, 3, none⟩ = some v3 := by
 refine ⟨?_, ?_, ?_, ?_⟩ <;> (rw [h.cell]; rfl)
end
theorem Cmp_lex (a b : MonD) (w : World) :
    Calls Tryz.prog 192 #[.agg #[.int .i64 a.x0, .int .i64 a.x1, .int .i64 a.x2, .int .i64 a.x3], .agg #[.int .i64 b.x0, .int .i64 b.x1, .int .i64 b.x2, .int .i64 b.x3]] w fun e w' => e = .returned (.int .i64 (lexC a.l b.l)) ∧ Blw w.heap.size w w' := by
 go_enter Tryz.func192, Tryz.ntmps192
 go_upto_region 1 with (fail)
 refine wp_gen (fun W => Bm2 w.heap.size w.heap.size (w.heap.size + 1) w W a b) (Bm2.mk2 w a b) ?_
 intro W BX
 generalize w.heap.size + 1 = g2 at BX ⊢
 have r1 := aa BX.out.k1.mono
 have r2 := aa BX.out.k2.mono
 have CC := aa (slices_Compare (some ⟨w.heap.size, 0, none⟩) (some ⟨g2, 0, none⟩) 4 4 a.l b.l W.drew r1.out (ae _) r2.out (ae _) rfl (by simp [MonD.l]))
 go_region_with (go_at_call 193; refine CC.out.mono ?_; rintro e w' ⟨rfl, rfl⟩)
 all_goals (
  go_wp2_with fail
  go_ret
  exact ⟨rfl, (BX.out.dn 1).below⟩)
def rev (m : MonD) : MonD := ⟨m.x3, m.x2, m.x1, m.x0⟩
theorem Bk.setFour {w : World} {g : Nat} {t : TypeId} {a0 a1 a2 a3 : Value} (h : Bk w g t #[a0, a1, a2, a3]) (v0 v1 v2 v3 : Value) : Bk (w.setCells g 0 [v0, v1, v2, v3]) g t #[v0, v1, v2, v3] :=
 (((h.set_ 0 v0).set_ 1 v1).set_ 2 v2).set_ 3 v3
theorem Cmp_rev (a b : MonD) (gt : Nat) (w : World) (ht : w.cell? ⟨gt, 0, none⟩ = some (.func (.func 192) #[] #[])) :
    Calls Tryz.prog 199 #[.agg #[.int .i64 a.x0, .int .i64 a.x1, .int .i64 a.x2, .int .i64 a.x3], .agg #[.int .i64 b.x0, .int .i64 b.x1, .int .i64 b.x2, .int .i64 b.x3], .pointer (some ⟨gt, 0, none⟩)] w fun e w' => e = .returned (.int .i64 (lexC (rev b).l (rev a).l)) ∧ Blw w.heap.size w w' := by
 have hgt := World.block_lt_of_cell? w _ ht
 go_enter Tryz.func199, Tryz.ntmps199
 go_upto_region 1 with (fail)
 refine wp_gen (fun W => Bm2 w.heap.size w.heap.size (w.heap.size + 1) w W a b) (Bm2.mk2 w a b) ?_
 intro W BX
 generalize w.heap.size + 1 = g2 at BX ⊢
 have C1 := aa (Tryz.slices_Reverse_int_cells w.heap.size 0 4 4 a.l W (ae _) (by decide) (fun j hj => by
  obtain ⟨c0, c1, c2, c3⟩ := BX.out.k1.four
  match j, hj with
  | 0, _ => exact c0
  | 1, _ => exact c1
  | 2, _ => exact c2
  | 3, _ => exact c3) (fun j _ => BX.out.k1.froz _))
 go_wp2_with fail
 refine C1.out.mono ?_
 rintro e w2 ⟨rfl, q, rfl⟩
 have k1 : Hd (Bk ((W.drewN q).setCells w.heap.size 0 ((a.l.take 4).reverse.map (Value.int .i64))) w.heap.size 66 #[.int .i64 (rev a).x0, .int .i64 (rev a).x1, .int .i64 (rev a).x2, .int .i64 (rev a).x3]) := ⟨(BX.out.dn q).k1.setFour _ _ _ _⟩
 have BX2 : Hd (Bm2 w.heap.size w.heap.size g2 w ((W.drewN q).setCells w.heap.size 0 ((a.l.take 4).reverse.map (Value.int .i64))) (rev a) b) :=
  ⟨((((BX.out.dn q).below.setCell BX.out.s1 _).setCell BX.out.s1 _).setCell BX.out.s1 _).setCell BX.out.s1 _, BX.out.s1, BX.out.s2, BX.out.n12, k1.out, ((((BX.out.dn q).k2.far BX.out.n12.symm _).far BX.out.n12.symm _).far BX.out.n12.symm _).far BX.out.n12.symm _⟩
 generalize (W.drewN q).setCells w.heap.size 0 ((a.l.take 4).reverse.map (Value.int .i64)) = W2 at k1 BX2 ⊢
 have C2 := aa (Tryz.slices_Reverse_int_cells g2 0 4 4 b.l W2 (ae _) (by decide) (fun j hj => by
  obtain ⟨c0, c1, c2, c3⟩ := BX2.out.k2.four
  match j, hj with
  | 0, _ => exact c0
  | 1, _ => exact c1
  | 2, _ => exact c2
  | 3, _ => exact c3) (fun j _ => BX2.out.k2.froz _))
 go_wp2_with fail
 refine C2.out.mono ?_
 rintro e w2 ⟨rfl, q2, rfl⟩
 have BX3 : Hd (Bm2 w.heap.size w.heap.size g2 w ((W2.drewN q2).setCells g2 0 ((b.l.take 4).reverse.map (Value.int .i64))) (rev a) (rev b)) :=
  ⟨((((BX2.out.dn q2).below.setCell BX2.out.s2 _).setCell BX2.out.s2 _).setCell BX2.out.s2 _).setCell BX2.out.s2 _, BX2.out.s1, BX2.out.s2, BX2.out.n12, ((((BX2.out.dn q2).k1.far BX2.out.n12 _).far BX2.out.n12 _).far BX2.out.n12 _).far BX2.out.n12 _, (BX2.out.dn q2).k2.setFour _ _ _ _⟩
 generalize (W2.drewN q2).setCells g2 0 ((b.l.take 4).reverse.map (Value.int .i64)) = W3 at BX3 ⊢
 obtain ⟨c0, c1, c2, c3⟩ := BX3.out.k1.four
 obtain ⟨d0, d1, d2, d3⟩ := BX3.out.k2.four
 have ht3 := (BX3.out.below.cell hgt).trans ht
 have CL := aa (Cmp_lex (rev b) (rev a) W3)
 go_wp2_with fail
 refine CL.out.mono ?_
 rintro e w4 ⟨rfl, hb⟩
 have BX4 := aa (BX3.out.up hb)
 clear hb
 go_wp2_with fail
 go_ret
 exact ⟨rfl, BX4.out.below⟩
theorem lit2_rd (w : World) (a b : Int) (t : TypeId) : RdI (w.alloc (.cells #[.int .i64 a, .int .i64 b] t)) .i64 (some ⟨w.heap.size, 0, none⟩) [a, b] := by
 have := Rd.new_ w #[.int .i64 a, .int .i64 b] t 2 1 rfl
 unfold RdI
 rw [show (w.alloc (.cells #[.int .i64 a, .int .i64 b] t)).heap.size = w.heap.size + 1 by simp]
 exact this
def orI (a b : Int) : Int := if a ≠ 0 then a else b
theorem cmp_OrI (a b : Int) (A : Option Addr) (c : Nat) (w : World) (h : RdI w .i64 A [a, b]) :
    Calls Tryz.prog 196 #[.slice A 2 c] w fun e w' => e = .returned (.int .i64 (orI a b)) ∧ w = w' := cmp_Or2 a b A c w h
theorem al_cell {w : World} {a : Addr} {v : Value} (h : w.cell? a = some v) (o : Obj) : (w.alloc o).cell? a = some v := cellUp h ((Blw.refl _ _).alloc (ae _) _)
theorem graded_lex (a b : MonD) (gt : Nat) (w : World) (ht : w.cell? ⟨gt, 0, none⟩ = some (.func (.func 192) #[] #[])) :
    Calls Tryz.prog 195 #[.agg #[.int .i64 a.x0, .int .i64 a.x1, .int .i64 a.x2, .int .i64 a.x3], .agg #[.int .i64 b.x0, .int .i64 b.x1, .int .i64 b.x2, .int .i64 b.x3], .pointer (some ⟨gt, 0, none⟩)] w fun e w' => e = .returned (.int .i64 (orI (cmpI (monDeg a) (monDeg b)) (lexC a.l b.l))) ∧ Blw w.heap.size w w' := by
 have hgt := World.block_lt_of_cell? w _ ht
 skip
 obtain ⟨R, hR⟩ : ∃ R, lexC a.l b.l = R := ⟨_, rfl⟩
 obtain ⟨da, hda⟩ : ∃ d, monDeg a = d := ⟨_, rfl⟩
 obtain ⟨db, hdb⟩ : ∃ d, monDeg b = d := ⟨_, rfl⟩
 rw [hR, hda, hdb]
 have D1 := aa (fun W => mono_Degree a W)
 have D2 := aa (fun W => mono_Degree b W)
 rw [hda] at D1
 rw [hdb] at D2
 have CT := aa (fun W => Cmp_lex a b W)
 rw [hR] at CT
 have CC := aa (fun W => cmp_Compare da db W)
 obtain ⟨k, hk⟩ : ∃ k, cmpI da db = k := ⟨_, rfl⟩
 rw [hk] at CC ⊢
 have CO := aa (fun W => cmp_OrI k R (some ⟨W.heap.size, 0, none⟩) 2 _ (lit2_rd W k R 3))
 obtain ⟨O, hO⟩ : ∃ O, orI k R = O := ⟨_, rfl⟩
 rw [hO] at CO ⊢
 clear hO
 clear hR hda hdb hk
 go_enter Tryz.func195, Tryz.ntmps195
 go_upto_region 1 with (fail)
 refine wp_gen (fun W => Bm2 w.heap.size w.heap.size (w.heap.size + 1) w W a b) (Bm2.mk2 w a b) ?_
 intro W BX
 generalize w.heap.size + 1 = g2 at BX ⊢
 obtain ⟨c0, c1, c2, c3⟩ := BX.out.k1.four
 obtain ⟨d0, d1, d2, d3⟩ := BX.out.k2.four
 have ht2 := (BX.out.below.cell hgt).trans ht
 skip
 go_region_held3 (fun w' => Hd (Blw w.heap.size w w') ∧ w'.cell? ⟨w.heap.size, 0, none⟩ = some (.int .i64 a.x0) ∧ w'.cell? ⟨w.heap.size, 1, none⟩ = some (.int .i64 a.x1) ∧ w'.cell? ⟨w.heap.size, 2, none⟩ = some (.int .i64 a.x2) ∧ w'.cell? ⟨w.heap.size, 3, none⟩ = some (.int .i64 a.x3) ∧ w'.cell? ⟨g2, 0, none⟩ = some (.int .i64 b.x0) ∧ w'.cell? ⟨g2, 1, none⟩ = some (.int .i64 b.x1) ∧ w'.cell? ⟨g2, 2, none⟩ = some (.int .i64 b.x2) ∧ w'.cell? ⟨g2, 3, none⟩ = some (.int .i64 b.x3) ∧ w'.cell? ⟨gt, 0, none⟩ = some (.func (.func 192) #[] #[]))
  (first
   | exact hS
   | exact ⟨⟨BX.out.below⟩, c0, c1, c2, c3, d0, d1, d2, d3, ht2⟩
   | exact ⟨⟨(BX.out.dn 1).below⟩, c0, c1, c2, c3, d0, d1, d2, d3, ht2⟩
   | exact ⟨⟨hS.1.out.alloc hS.1.out.size _⟩, al_cell hS.2.1 _, al_cell hS.2.2.1 _, al_cell hS.2.2.2.1 _, al_cell hS.2.2.2.2.1 _, al_cell hS.2.2.2.2.2.1 _, al_cell hS.2.2.2.2.2.2.1 _, al_cell hS.2.2.2.2.2.2.2.1 _, al_cell hS.2.2.2.2.2.2.2.2.1 _, al_cell hS.2.2.2.2.2.2.2.2.2 _⟩)
  (first
   | (go_at_call 198; obtain ⟨hB, q0, q1, q2, q3, q4, q5, q6, q7, q8⟩ := ‹Hd (Blw w.heap.size w _) ∧ _›; with_reducible refine (D1.out _).mono ?_; rintro e w4 ⟨rfl, hb⟩
      have hS := af (aa (hB.out.trans (hb.mono hB.out.size))) (af (cellUp q0 hb) (af (cellUp q1 hb) (af (cellUp q2 hb) (af (cellUp q3 hb) (af (cellUp q4 hb) (af (cellUp q5 hb) (af (cellUp q6 hb) (af (cellUp q7 hb) (cellUp q8 hb))))))))))
   | (go_at_call 198; obtain ⟨hB, q0, q1, q2, q3, q4, q5, q6, q7, q8⟩ := ‹Hd (Blw w.heap.size w _) ∧ _›; with_reducible refine (D2.out _).mono ?_; rintro e w5 ⟨rfl, hb⟩
      have hS := af (aa (hB.out.trans (hb.mono hB.out.size))) (af (cellUp q0 hb) (af (cellUp q1 hb) (af (cellUp q2 hb) (af (cellUp q3 hb) (af (cellUp q4 hb) (af (cellUp q5 hb) (af (cellUp q6 hb) (af (cellUp q7 hb) (cellUp q8 hb))))))))))
   | (go_at_call 197; obtain ⟨hB, q0, q1, q2, q3, q4, q5, q6, q7, q8⟩ := ‹Hd (Blw w.heap.size w _) ∧ _›; with_reducible refine (CC.out _).mono ?_; rintro e w6 ⟨rfl, rfl⟩
      have hS := af hB (af q0 (af q1 (af q2 (af q3 (af q4 (af q5 (af q6 (af q7 (q8))))))))))
   | (go_at_call 192; obtain ⟨hB, q0, q1, q2, q3, q4, q5, q6, q7, q8⟩ := ‹Hd (Blw w.heap.size w _) ∧ _›; with_reducible refine (CT.out _ ).mono ?_; rintro e w7 ⟨rfl, hb⟩
      have hS := af (aa (hB.out.trans (hb.mono hB.out.size))) (af (cellUp q0 hb) (af (cellUp q1 hb) (af (cellUp q2 hb) (af (cellUp q3 hb) (af (cellUp q4 hb) (af (cellUp q5 hb) (af (cellUp q6 hb) (af (cellUp q7 hb) (cellUp q8 hb))))))))))
   | (go_at_call 196; obtain ⟨hB, q0, q1, q2, q3, q4, q5, q6, q7, q8⟩ := ‹Hd (Blw w.heap.size w _) ∧ _›; with_reducible refine (CO.out _).mono ?_; rintro e w8 ⟨rfl, rfl⟩
      have hS := af hB (af q0 (af q1 (af q2 (af q3 (af q4 (af q5 (af q6 (af q7 (q8)))))))))))
 all_goals (
  go_wp2_with fail
  go_ret
  exact ⟨rfl, hS.1.out⟩)
theorem graded_rev (a b : MonD) (gt gl : Nat) (w : World) (ht : w.cell? ⟨gt, 0, none⟩ = some (.func (.func 199) #[] #[.pointer (some ⟨gl, 0, none⟩)])) (hl : w.cell? ⟨gl, 0, none⟩ = some (.func (.func 192) #[] #[])) :
    Calls Tryz.prog 195 #[.agg #[.int .i64 a.x0, .int .i64 a.x1, .int .i64 a.x2, .int .i64 a.x3], .agg #[.int .i64 b.x0, .int .i64 b.x1, .int .i64 b.x2, .int .i64 b.x3], .pointer (some ⟨gt, 0, none⟩)] w fun e w' => e = .returned (.int .i64 (orI (cmpI (monDeg a) (monDeg b)) (lexC (rev b).l (rev a).l))) ∧ Blw w.heap.size w w' := by
 have hgt := World.block_lt_of_cell? w _ ht
 have hgl := World.block_lt_of_cell? w _ hl
 obtain ⟨R, hR⟩ : ∃ R, lexC (rev b).l (rev a).l = R := ⟨_, rfl⟩
 obtain ⟨da, hda⟩ : ∃ d, monDeg a = d := ⟨_, rfl⟩
 obtain ⟨db, hdb⟩ : ∃ d, monDeg b = d := ⟨_, rfl⟩
 rw [hR, hda, hdb]
 have D1 := aa (fun W => mono_Degree a W)
 have D2 := aa (fun W => mono_Degree b W)
 rw [hda] at D1
 rw [hdb] at D2
 have CT := aa (fun W hq => Cmp_rev a b gl W hq)
 rw [hR] at CT
 have CC := aa (fun W => cmp_Compare da db W)
 obtain ⟨k, hk⟩ : ∃ k, cmpI da db = k := ⟨_, rfl⟩
 rw [hk] at CC ⊢
 have CO := aa (fun W => cmp_OrI k R (some ⟨W.heap.size, 0, none⟩) 2 _ (lit2_rd W k R 3))
 obtain ⟨O, hO⟩ : ∃ O, orI k R = O := ⟨_, rfl⟩
 rw [hO] at CO ⊢
 clear hO
 clear hR hda hdb hk
 go_enter Tryz.func195, Tryz.ntmps195
 go_upto_region 1 with (fail)
 refine wp_gen (fun W => Bm2 w.heap.size w.heap.size (w.heap.size + 1) w W a b) (Bm2.mk2 w a b) ?_
 intro W BX
 generalize w.heap.size + 1 = g2 at BX ⊢
 obtain ⟨c0, c1, c2, c3⟩ := BX.out.k1.four
 obtain ⟨d0, d1, d2, d3⟩ := BX.out.k2.four
 have ht2 := (BX.out.below.cell hgt).trans ht
 have hl2 := (BX.out.below.cell hgl).trans hl
 go_region_held3 (fun w' => Hd (Blw w.heap.size w w') ∧ w'.cell? ⟨w.heap.size, 0, none⟩ = some (.int .i64 a.x0) ∧ w'.cell? ⟨w.heap.size, 1, none⟩ = some (.int .i64 a.x1) ∧ w'.cell? ⟨w.heap.size, 2, none⟩ = some (.int .i64 a.x2) ∧ w'.cell? ⟨w.heap.size, 3, none⟩ = some (.int .i64 a.x3) ∧ w'.cell? ⟨g2, 0, none⟩ = some (.int .i64 b.x0) ∧ w'.cell? ⟨g2, 1, none⟩ = some (.int .i64 b.x1) ∧ w'.cell? ⟨g2, 2, none⟩ = some (.int .i64 b.x2) ∧ w'.cell? ⟨g2, 3, none⟩ = some (.int .i64 b.x3) ∧ w'.cell? ⟨gt, 0, none⟩ = some (.func (.func 199) #[] #[.pointer (some ⟨gl, 0, none⟩)]) ∧ w'.cell? ⟨gl, 0, none⟩ = some (.func (.func 192) #[] #[]))
  (first
   | exact hS
   | exact ⟨⟨BX.out.below⟩, c0, c1, c2, c3, d0, d1, d2, d3, ht2, hl2⟩
   | exact ⟨⟨(BX.out.dn 1).below⟩, c0, c1, c2, c3, d0, d1, d2, d3, ht2, hl2⟩
   | exact ⟨⟨hS.1.out.alloc hS.1.out.size _⟩, al_cell hS.2.1 _, al_cell hS.2.2.1 _, al_cell hS.2.2.2.1 _, al_cell hS.2.2.2.2.1 _, al_cell hS.2.2.2.2.2.1 _, al_cell hS.2.2.2.2.2.2.1 _, al_cell hS.2.2.2.2.2.2.2.1 _, al_cell hS.2.2.2.2.2.2.2.2.1 _, al_cell hS.2.2.2.2.2.2.2.2.2.1 _, al_cell hS.2.2.2.2.2.2.2.2.2.2 _⟩)
  (first
   | (go_at_call 198; obtain ⟨hB, q0, q1, q2, q3, q4, q5, q6, q7, q8, q9⟩ := ‹Hd (Blw w.heap.size w _) ∧ _›; with_reducible refine (D1.out _).mono ?_; rintro e w4 ⟨rfl, hb⟩
      have hS := af (aa (hB.out.trans (hb.mono hB.out.size))) (af (cellUp q0 hb) (af (cellUp q1 hb) (af (cellUp q2 hb) (af (cellUp q3 hb) (af (cellUp q4 hb) (af (cellUp q5 hb) (af (cellUp q6 hb) (af (cellUp q7 hb) (af (cellUp q8 hb) (cellUp q9 hb)))))))))))
   | (go_at_call 198; obtain ⟨hB, q0, q1, q2, q3, q4, q5, q6, q7, q8, q9⟩ := ‹Hd (Blw w.heap.size w _) ∧ _›; with_reducible refine (D2.out _).mono ?_; rintro e w5 ⟨rfl, hb⟩
      have hS := af (aa (hB.out.trans (hb.mono hB.out.size))) (af (cellUp q0 hb) (af (cellUp q1 hb) (af (cellUp q2 hb) (af (cellUp q3 hb) (af (cellUp q4 hb) (af (cellUp q5 hb) (af (cellUp q6 hb) (af (cellUp q7 hb) (af (cellUp q8 hb) (cellUp q9 hb)))))))))))
   | (go_at_call 197; obtain ⟨hB, q0, q1, q2, q3, q4, q5, q6, q7, q8, q9⟩ := ‹Hd (Blw w.heap.size w _) ∧ _›; with_reducible refine (CC.out _).mono ?_; rintro e w6 ⟨rfl, rfl⟩
      have hS := af hB (af q0 (af q1 (af q2 (af q3 (af q4 (af q5 (af q6 (af q7 (af q8 (q9)))))))))))
   | (go_at_call 199; obtain ⟨hB, q0, q1, q2, q3, q4, q5, q6, q7, q8, q9⟩ := ‹Hd (Blw w.heap.size w _) ∧ _›; with_reducible refine (CT.out _ q9).mono ?_; rintro e w7 ⟨rfl, hb⟩
      have hS := af (aa (hB.out.trans (hb.mono hB.out.size))) (af (cellUp q0 hb) (af (cellUp q1 hb) (af (cellUp q2 hb) (af (cellUp q3 hb) (af (cellUp q4 hb) (af (cellUp q5 hb) (af (cellUp q6 hb) (af (cellUp q7 hb) (af (cellUp q8 hb) (cellUp q9 hb)))))))))))
   | (go_at_call 196; obtain ⟨hB, q0, q1, q2, q3, q4, q5, q6, q7, q8, q9⟩ := ‹Hd (Blw w.heap.size w _) ∧ _›; with_reducible refine (CO.out _).mono ?_; rintro e w8 ⟨rfl, rfl⟩
      have hS := af hB (af q0 (af q1 (af q2 (af q3 (af q4 (af q5 (af q6 (af q7 (af q8 (q9))))))))))))
 all_goals (
  go_wp2_with fail
  go_ret
  exact ⟨rfl, hS.1.out⟩)
theorem Cmp_2 (F : FuncId) (cap : Array Value) (w : World) :
    Calls Tryz.prog 194 #[.func (.func F) #[] cap] w fun e w' => ∃ g, e = .returned (.func (.func 195) #[] #[.pointer (some ⟨g, 0, none⟩)]) ∧ w.heap.size ≤ g ∧ Bk w' g 189 #[.func (.func F) #[] cap] ∧ Blw w.heap.size w w' := by
 go_enter Tryz.func194, Tryz.ntmps194
 go_wp2_with fail
 go_ret
 exact ⟨_, rfl, ae _, Bk.new_ _ _ _, (Blw.refl _ _).alloc (ae _) _⟩
def monCmp (order : Int) (a b : MonD) : Int :=
 if (!monMay a || !monMay b || decide (order < 0) || decide (3 ≤ order)) = true then 0
 else if order = 0 then lexC a.l b.l else if order = 1 then orI (cmpI (monDeg a) (monDeg b)) (lexC a.l b.l) else orI (cmpI (monDeg a) (monDeg b)) (lexC (rev b).l (rev a).l)
structure Mq (S g1 g2 gl gA gB g10 : Nat) (w0 w : World) (a b : MonD) : Prop where
 bm : Bm2 S g1 g2 w0 w a b
 kl : Bk w gl 189 #[(.func (.func 192) #[] #[])]
 kA : Bk w gA 189 #[(.func (.func 192) #[] #[])]
 kB : Bk w gB 189 #[(.func (.func 199) #[] #[.pointer (some ⟨gl, 0, none⟩)])]
 k10 : Bk w g10 216 #[(.func (.func 192) #[] #[]), (.func (.func 195) #[] #[.pointer (some ⟨gA, 0, none⟩)]), (.func (.func 195) #[] #[.pointer (some ⟨gB, 0, none⟩)])]
theorem Mq.up {S g1 g2 gl gA gB g10 : Nat} {w0 w w' : World} {a b : MonD} (h : Mq S g1 g2 gl gA gB g10 w0 w a b) (hb : Blw w.heap.size w w') : Mq S g1 g2 gl gA gB g10 w0 w' a b :=
 ⟨h.bm.up hb, h.kl.up hb.lo, h.kA.up hb.lo, h.kB.up hb.lo, h.k10.up hb.lo⟩
theorem Mq.dn {S g1 g2 gl gA gB g10 : Nat} {w0 w : World} {a b : MonD} (h : Mq S g1 g2 gl gA gB g10 w0 w a b) (n : Nat) : Mq S g1 g2 gl gA gB g10 w0 (w.drewN n) a b :=
 ⟨h.bm.dn n, h.kl, h.kA, h.kB, h.k10⟩
theorem mono_Cmp (order : Int) (a b : MonD) (w : World) :
    Calls Tryz.prog 115 #[.int .i64 order, .agg #[.int .i64 a.x0, .int .i64 a.x1, .int .i64 a.x2, .int .i64 a.x3], .agg #[.int .i64 b.x0, .int .i64 b.x1, .int .i64 b.x2, .int .i64 b.x3]] w fun e w' => e = .returned (.int .i64 (monCmp order a b)) ∧ Blw w.heap.size w w' := by
 go_enter Tryz.func115, Tryz.ntmps115
 go_upto_region 1 with (fail)
 refine wp_gen (fun W => Bm2 w.heap.size w.heap.size (w.heap.size + 1) w W a b) (Bm2.mk2 w a b) ?_
 intro W BX
 generalize w.heap.size + 1 = g2 at BX ⊢
 go_upto_region 4 with (fail)
 refine wp_gen (fun W2 => Bm2 w.heap.size w.heap.size g2 w W2 a b ∧ w.heap.size ≤ W.heap.size ∧ Bk W2 W.heap.size 189 #[.func (.func 192) #[] #[]]) ⟨BX.out.up ((Blw.refl _ _).alloc (ae _) _), BX.out.below.size, Bk.new_ _ _ _⟩ ?_
 intro W2 BY
 generalize W.heap.size = gl at BY ⊢
 clear BX
 have l0 := BY.out.2.2.one
 have hgl : W2.heap.size ≠ gl := fun e => by have := BY.out.2.2.lt; omega
 have hgl4 : ¬ (W2.heap.size ≤ gl) := fun e => by have := BY.out.2.2.lt; omega
 have C1 := aa (fun W => Cmp_2 192 #[] W)
 have C2 := aa (fun W => Cmp_2 199 #[.pointer (some ⟨gl, 0, none⟩)] W)
 go_cut [10] (fun v10 wx => ∃ g10 gA gB : Nat, v10 = .pointer (some ⟨g10, 0, none⟩) ∧ Hd (Blw W2.heap.size W2 wx) ∧ Hd (Bk wx g10 216 #[(.func (.func 192) #[] #[]), (.func (.func 195) #[] #[.pointer (some ⟨gA, 0, none⟩)]), (.func (.func 195) #[] #[.pointer (some ⟨gB, 0, none⟩)])]) ∧ Hd (Bk wx gA 189 #[(.func (.func 192) #[] #[])]) ∧ Hd (Bk wx gB 189 #[(.func (.func 199) #[] #[.pointer (some ⟨gl, 0, none⟩)])]))
 case first =>
  go_region_held3 (fun w' => Hd (Blw W2.heap.size W2 w') ∧ w'.cell? ⟨gl, 0, none⟩ = some (.func (.func 192) #[] #[]))
   (first
    | exact hS
    | exact ⟨⟨Blw.refl _ _⟩, l0⟩
    | exact ⟨⟨Blw.dn (Blw.refl W2.heap.size W2) 1⟩, l0⟩
    | exact sal' hS _
    | exact sal' ⟨⟨Blw.refl W2.heap.size W2⟩, l0⟩ _
    | exact sal' ⟨⟨Blw.dn (Blw.refl W2.heap.size W2) 1⟩, l0⟩ _
    | exact ⟨⟨((hS.1.out.setCell HR2.out.1 _).setCell HR2.out.1 _).setCell HR2.out.1 _⟩, (far1 rfl hnl).trans ((far1 rfl hnl).trans ((far1 rfl hnl).trans hS.2))⟩)
   (first
   | (go_at_call 194; obtain ⟨hB, q1⟩ := ‹Hd (Blw W2.heap.size W2 _) ∧ _›; with_reducible refine (C1.out (W2.drew)).mono ?_; rintro e w4 ⟨gA, rfl, hgA, hkA, hb⟩
      have hS := af (aa (hB.out.trans (hb.mono hB.out.size))) (cellUp q1 hb)
      have HA := aa (af (ah hB.out.size hgA) hkA)
      clear hgA hkA)
   | (go_at_call 194; obtain ⟨hB, q1⟩ := ‹Hd (Blw W2.heap.size W2 _) ∧ _›; with_reducible refine (C1.out ((W2.alloc (Obj.cells #[.nilFunc, .nilFunc, .nilFunc] 216)).drew)).mono ?_; rintro e w4 ⟨gA, rfl, hgA, hkA, hb⟩
      have hS := af (aa (hB.out.trans (hb.mono hB.out.size))) (cellUp q1 hb)
      have HA := aa (af (ah hB.out.size hgA) hkA)
      have HR := aa (af (ae W2.heap.size) (Bk.up (Bk.dn (Bk.new_ W2 216 #[.nilFunc, .nilFunc, .nilFunc]) 1) hb.lo))
      clear hgA hkA)
   | (go_at_call 194; obtain ⟨hB, q1⟩ := ‹Hd (Blw W2.heap.size W2 _) ∧ _›; with_reducible refine (C2.out (w4)).mono ?_; rintro e w5 ⟨gB, rfl, hgB, hkB, hb⟩
      have hS := af (aa (hB.out.trans (hb.mono hB.out.size))) (cellUp q1 hb)
      have HA2 := aa (af HA.out.1 (Bk.up HA.out.2 hb.lo))
      have HBB := aa (af (ah (Blw.size hB.out) hgB) hkB)
      have HR2 := aa (af HR.out.1 (Bk.up HR.out.2 hb.lo))
      have hnl : W2.heap.size ≠ gl := hgl
      obtain ⟨p6, p7, p8⟩ := HR2.out.2.three
      have fz := fun i => HR2.out.2.froz i
      clear hgB hkB)
   | (go_at_call 194; obtain ⟨hB, q1⟩ := ‹Hd (Blw W2.heap.size W2 _) ∧ _›; with_reducible refine (C2.out (w4)).mono ?_; rintro e w5 ⟨gB, rfl, hgB, hkB, hb⟩
      have hS := af (aa (hB.out.trans (hb.mono hB.out.size))) (cellUp q1 hb)
      have HA2 := aa (af HA.out.1 (Bk.up HA.out.2 hb.lo))
      have HBB := aa (af (ah (Blw.size hB.out) hgB) hkB)
      clear hgB hkB)
   | (go_at_call 194; obtain ⟨hB, q1⟩ := ‹Hd (Blw W2.heap.size W2 _) ∧ _›; with_reducible refine (C2.out (w4.alloc (Obj.cells #[.nilFunc, .nilFunc, .nilFunc] 216))).mono ?_; rintro e w5 ⟨gB, rfl, hgB, hkB, hb⟩
      have hS := af (aa (hB.out.trans (hb.mono hB.out.size))) (cellUp q1 hb)
      have HA2 := aa (af HA.out.1 (Bk.up (Bk.al HA.out.2 (Obj.cells #[.nilFunc, .nilFunc, .nilFunc] 216)) hb.lo))
      have HBB := aa (af (ah (Blw.size hB.out) hgB) hkB)
      have HR2 := aa (af (ah HA.out.1 (Nat.le_of_lt HA.out.2.lt)) (Bk.up (Bk.new_ w4 216 #[.nilFunc, .nilFunc, .nilFunc]) hb.lo))
      have hnl : w4.heap.size ≠ gl := fun e => hgl4 (e ▸ (ah HA.out.1 (Nat.le_of_lt HA.out.2.lt)))
      obtain ⟨p6, p7, p8⟩ := HR2.out.2.three
      have fz := fun i => HR2.out.2.froz i
      clear hgB hkB))
  ·go_wp2_with fail
   go_meet
   exact ⟨w5.heap.size, gA, gB, rfl, ⟨hS.1.out.trans (((Blw.refl _ _).alloc (ae _) _).mono hS.1.out.size)⟩, ⟨Bk.new_ _ _ _⟩, ⟨HA2.out.2.al _⟩, ⟨HBB.out.2.al _⟩⟩
  all_goals (
   go_wp2_with fail
   go_meet
   have nA := Bk.ne_ HA2.out.2 HR2.out.2 (by decide)
   have nB := Bk.ne_ HBB.out.2 HR2.out.2 (by decide)
   exact ⟨_, gA, gB, rfl, ⟨((hS.1.out.setCell HR2.out.1 _).setCell HR2.out.1 _).setCell HR2.out.1 _⟩, ⟨HR2.out.2.set3 _ _ _⟩, ⟨((HA2.out.2.far nA _).far nA _).far nA _⟩, ⟨((HBB.out.2.far nB _).far nB _).far nB _⟩⟩)
 case rest =>
  obtain ⟨g10, gA, gB, rfl, hB, k10, kA, kB⟩ := hcut
  have BQ : Hd (Mq w.heap.size w.heap.size g2 gl gA gB g10 w wc a b) := ⟨BY.out.1.up hB.out, BY.out.2.2.up hB.out, kA.out, kB.out, k10.out⟩
  clear BY hB k10 kA kB C1 C2 l0 hgl hgl4
  obtain ⟨c0, c1, c2, c3⟩ := BQ.out.bm.k1.four
  have CA := aa (mono_May a wc)
  cases hma : monMay a
  ·have HE : Hd (monCmp order a b = 0) := ⟨by unfold monCmp; rw [hma]; rfl⟩
   rw [hma] at CA
   go_wp2_with fail
   refine CA.out.mono ?_
   rintro e w4 ⟨rfl, hb⟩
   have BQ4 := aa (BQ.out.up hb)
   clear hb
   go_wp2_with fail
   go_ret
   exact ⟨retInt HE.out.symm, BQ4.out.bm.below⟩
  ·rw [hma] at CA
   go_wp2_with fail
   refine CA.out.mono ?_
   rintro e w4 ⟨rfl, hb⟩
   have BQ4 := aa (BQ.out.up hb)
   obtain ⟨d0, d1, d2, d3⟩ := BQ4.out.bm.k2.four
   have CB := aa (mono_May b w4)
   clear hb c0 c1 c2 c3 BQ CA
   cases hmb : monMay b
   ·have HE : Hd (monCmp order a b = 0) := ⟨by unfold monCmp; rw [hmb]; simp⟩
    rw [hmb] at CB
    go_wp2_with fail
    refine CB.out.mono ?_
    rintro e w5 ⟨rfl, hb⟩
    have BQ5 := aa (BQ4.out.up hb)
    clear hb
    go_wp2_with fail
    go_ret
    exact ⟨retInt HE.out.symm, BQ5.out.bm.below⟩
   ·rw [hmb] at CB
    by_cases ho1 : order < 0
    ·have HE : Hd (monCmp order a b = 0) := ⟨by unfold monCmp; rw [decide_eq_true ho1]; simp⟩
     have e1 : decide (order < 0) = true := decide_eq_true ho1
     clear ho1
     go_wp2_with fail
     refine CB.out.mono ?_
     rintro e w5 ⟨rfl, hb⟩
     have BQ5 := aa (BQ4.out.up hb)
     clear hb
     go_wp2_with fail
     go_ret
     exact ⟨retInt HE.out.symm, BQ5.out.bm.below⟩
    ·by_cases ho2 : 3 ≤ order
     ·have HE : Hd (monCmp order a b = 0) := ⟨by unfold monCmp; rw [decide_eq_true ho2]; simp⟩
      have e1 : decide (order < 0) = false := decide_eq_false ho1
      have e2 : decide (3 ≤ order) = true := decide_eq_true ho2
      clear ho1 ho2
      go_wp2_with fail
      refine CB.out.mono ?_
      rintro e w5 ⟨rfl, hb⟩
      have BQ5 := aa (BQ4.out.up hb)
      clear hb
      go_wp2_with fail
      go_ret
      exact ⟨retInt HE.out.symm, BQ5.out.bm.below⟩
     ·have HE : Hd (monCmp order a b = if order = 0 then lexC a.l b.l else if order = 1 then orI (cmpI (monDeg a) (monDeg b)) (lexC a.l b.l) else orI (cmpI (monDeg a) (monDeg b)) (lexC (rev b).l (rev a).l)) := ⟨by
        unfold monCmp; rw [hma, hmb, decide_eq_false ho1, decide_eq_false ho2]; rfl⟩
      have F1 := aa (fun W => Cmp_lex a b W)
      have F2 := aa (fun W h => graded_lex a b gA W h)
      have F3 := aa (fun W h h' => graded_rev a b gB gl W h h')
      clear hma hmb
      rcases (show order = 0 ∨ order = 1 ∨ order = 2 by omega) with rfl | rfl | rfl
      ·clear ho1 ho2
       go_wp2_with fail
       refine CB.out.mono ?_
       rintro e w5 ⟨rfl, hb⟩
       have BQ5 := aa (BQ4.out.up hb)
       obtain ⟨c0, c1, c2, c3⟩ := BQ5.out.bm.k1.four
       obtain ⟨d0, d1, d2, d3⟩ := BQ5.out.bm.k2.four
       obtain ⟨t0, t1, t2⟩ := BQ5.out.k10.three
       clear hb
       go_wp2_with fail
       go_region_held3 (fun w' => Hd (Mq w.heap.size w.heap.size g2 gl gA gB g10 w w' a b) ∧ w'.cell? ⟨g10, 0, none⟩ = some (.func (.func 192) #[] #[]) ∧
           w'.cell? ⟨w.heap.size, 0, none⟩ = some (.int .i64 a.x0) ∧ w'.cell? ⟨w.heap.size, 1, none⟩ = some (.int .i64 a.x1) ∧ w'.cell? ⟨w.heap.size, 2, none⟩ = some (.int .i64 a.x2) ∧ w'.cell? ⟨w.heap.size, 3, none⟩ = some (.int .i64 a.x3) ∧
           w'.cell? ⟨g2, 0, none⟩ = some (.int .i64 b.x0) ∧ w'.cell? ⟨g2, 1, none⟩ = some (.int .i64 b.x1) ∧ w'.cell? ⟨g2, 2, none⟩ = some (.int .i64 b.x2) ∧ w'.cell? ⟨g2, 3, none⟩ = some (.int .i64 b.x3))
        (first
         | exact hS
         | exact ⟨BQ5, t0, c0, c1, c2, c3, d0, d1, d2, d3⟩
         | exact ⟨⟨BQ5.out.dn 1⟩, t0, c0, c1, c2, c3, d0, d1, d2, d3⟩)
        (first
         | (go_at_call 192; obtain ⟨hB, q0, q1, q2, q3, q4, q5, q6, q7, q8⟩ := ‹Hd (Mq w.heap.size w.heap.size g2 gl gA gB g10 w _ a b) ∧ _›; with_reducible refine (F1.out _).mono ?_; rintro e w6 ⟨rfl, hb⟩
            have BQ6 := aa (hB.out.up hb)
            have hS := af BQ6 (af (cellUp q0 hb) (af (cellUp q1 hb) (af (cellUp q2 hb) (af (cellUp q3 hb) (af (cellUp q4 hb) (af (cellUp q5 hb) (af (cellUp q6 hb) (af (cellUp q7 hb) (cellUp q8 hb)))))))))))
       all_goals (
        go_wp2_with fail
        go_ret
        exact ⟨retInt HE.out.symm, hS.1.out.bm.below⟩)
      ·clear ho1 ho2
       go_wp2_with fail
       refine CB.out.mono ?_
       rintro e w5 ⟨rfl, hb⟩
       have BQ5 := aa (BQ4.out.up hb)
       obtain ⟨c0, c1, c2, c3⟩ := BQ5.out.bm.k1.four
       obtain ⟨d0, d1, d2, d3⟩ := BQ5.out.bm.k2.four
       obtain ⟨t0, t1, t2⟩ := BQ5.out.k10.three
       clear hb
       go_wp2_with fail
       go_region_held3 (fun w' => Hd (Mq w.heap.size w.heap.size g2 gl gA gB g10 w w' a b) ∧ w'.cell? ⟨g10, 1, none⟩ = some (.func (.func 195) #[] #[.pointer (some ⟨gA, 0, none⟩)]) ∧
           w'.cell? ⟨w.heap.size, 0, none⟩ = some (.int .i64 a.x0) ∧ w'.cell? ⟨w.heap.size, 1, none⟩ = some (.int .i64 a.x1) ∧ w'.cell? ⟨w.heap.size, 2, none⟩ = some (.int .i64 a.x2) ∧ w'.cell? ⟨w.heap.size, 3, none⟩ = some (.int .i64 a.x3) ∧
           w'.cell? ⟨g2, 0, none⟩ = some (.int .i64 b.x0) ∧ w'.cell? ⟨g2, 1, none⟩ = some (.int .i64 b.x1) ∧ w'.cell? ⟨g2, 2, none⟩ = some (.int .i64 b.x2) ∧ w'.cell? ⟨g2, 3, none⟩ = some (.int .i64 b.x3))
        (first
         | exact hS
         | exact ⟨BQ5, t1, c0, c1, c2, c3, d0, d1, d2, d3⟩
         | exact ⟨⟨BQ5.out.dn 1⟩, t1, c0, c1, c2, c3, d0, d1, d2, d3⟩)
        (first
         | (go_at_call 195; obtain ⟨hB, q0, q1, q2, q3, q4, q5, q6, q7, q8⟩ := ‹Hd (Mq w.heap.size w.heap.size g2 gl gA gB g10 w _ a b) ∧ _›; with_reducible refine (F2.out _ hB.out.kA.one).mono ?_; rintro e w6 ⟨rfl, hb⟩
            have BQ6 := aa (hB.out.up hb)
            have hS := af BQ6 (af (cellUp q0 hb) (af (cellUp q1 hb) (af (cellUp q2 hb) (af (cellUp q3 hb) (af (cellUp q4 hb) (af (cellUp q5 hb) (af (cellUp q6 hb) (af (cellUp q7 hb) (cellUp q8 hb)))))))))))
       all_goals (
        go_wp2_with fail
        go_ret
        exact ⟨retInt HE.out.symm, hS.1.out.bm.below⟩)
      ·clear ho1 ho2
       go_wp2_with fail
       refine CB.out.mono ?_
       rintro e w5 ⟨rfl, hb⟩
       have BQ5 := aa (BQ4.out.up hb)
       obtain ⟨c0, c1, c2, c3⟩ := BQ5.out.bm.k1.four
       obtain ⟨d0, d1, d2, d3⟩ := BQ5.out.bm.k2.four
       obtain ⟨t0, t1, t2⟩ := BQ5.out.k10.three
       clear hb
       go_wp2_with fail
       go_region_held3 (fun w' => Hd (Mq w.heap.size w.heap.size g2 gl gA gB g10 w w' a b) ∧ w'.cell? ⟨g10, 2, none⟩ = some (.func (.func 195) #[] #[.pointer (some ⟨gB, 0, none⟩)]) ∧
           w'.cell? ⟨w.heap.size, 0, none⟩ = some (.int .i64 a.x0) ∧ w'.cell? ⟨w.heap.size, 1, none⟩ = some (.int .i64 a.x1) ∧ w'.cell? ⟨w.heap.size, 2, none⟩ = some (.int .i64 a.x2) ∧ w'.cell? ⟨w.heap.size, 3, none⟩ = some (.int .i64 a.x3) ∧
           w'.cell? ⟨g2, 0, none⟩ = some (.int .i64 b.x0) ∧ w'.cell? ⟨g2, 1, none⟩ = some (.int .i64 b.x1) ∧ w'.cell? ⟨g2, 2, none⟩ = some (.int .i64 b.x2) ∧ w'.cell? ⟨g2, 3, none⟩ = some (.int .i64 b.x3))
        (first
         | exact hS
         | exact ⟨BQ5, t2, c0, c1, c2, c3, d0, d1, d2, d3⟩
         | exact ⟨⟨BQ5.out.dn 1⟩, t2, c0, c1, c2, c3, d0, d1, d2, d3⟩)
        (first
         | (go_at_call 195; obtain ⟨hB, q0, q1, q2, q3, q4, q5, q6, q7, q8⟩ := ‹Hd (Mq w.heap.size w.heap.size g2 gl gA gB g10 w _ a b) ∧ _›; with_reducible refine (F3.out _ hB.out.kB.one hB.out.kl.one).mono ?_; rintro e w6 ⟨rfl, hb⟩
            have BQ6 := aa (hB.out.up hb)
            have hS := af BQ6 (af (cellUp q0 hb) (af (cellUp q1 hb) (af (cellUp q2 hb) (af (cellUp q3 hb) (af (cellUp q4 hb) (af (cellUp q5 hb) (af (cellUp q6 hb) (af (cellUp q7 hb) (cellUp q8 hb)))))))))))
       all_goals (
        go_wp2_with fail
        go_ret
        exact ⟨retInt HE.out.symm, hS.1.out.bm.below⟩)
def part (z : MonD) : Nat → MonD
 | 0 => ⟨0, 0, 0, 0⟩
 | 1 => ⟨z.x0, 0, 0, 0⟩
 | 2 => ⟨z.x0, z.x1, 0, 0⟩
 | 3 => ⟨z.x0, z.x1, z.x2, 0⟩
 | _ => z
def isArr : Option TypeDesc → Bool
 | some (.array _ _) => true
 | _ => false
theorem arr_of {o : Option TypeDesc} (h : isArr o = true) : ∃ n e, o = some (.array n e) := by
 unfold isArr at h
 split at h
 ·exact ⟨_, _, rfl⟩
 ·cases h
theorem Tryz.arMono : isArr (Tryz.prog.underlying 66) = true := by kernel_rfl
theorem Tryz.szMono : (Tryz.prog.info? 66).map (·.size) = some 4 := by kernel_rfl
theorem res_mono {fn : Func} {p : Tmp} (h : fn.results = #[.cell p 66]) (tmps : Array Value) (w : World) (g : Nat) (cs : Array Value) (hp : tmps.getD p undef = .pointer (some ⟨g, 0, none⟩)) (hk : Bk w g 66 cs) (hc : cs.size = 4) :
    (results fn tmps).run Tryz.prog w = .ok (.agg cs) w := by
 obtain ⟨n, e, h1⟩ := arr_of Tryz.arMono
 exact results_cell_row h tmps w g _ cs (0, 0) (.array n e) hp hk h1 rfl (by rw [hc]; exact Tryz.szMono)
theorem res_mono2 {fn : Func} {p u : Tmp} (h : fn.results = #[.cell p 66, .tmp u]) (tmps : Array Value) (w : World) (g : Nat) (cs : Array Value) (hp : tmps.getD p undef = .pointer (some ⟨g, 0, none⟩)) (hk : Bk w g 66 cs) (hc : cs.size = 4) :
    (results fn tmps).run Tryz.prog w = .ok (.tuple #[.agg cs, tmps.getD u undef]) w := by
 obtain ⟨n, e, h1⟩ := arr_of Tryz.arMono
 rw [results_cell_tmp h, hp]
 have hl := run_loadVar_row (P := Tryz.prog) w g 66 66 cs (0, 0) (.array n e) hk h1 rfl (by rw [hc]; exact Tryz.szMono)
 simp [asAddr, hl, Result.andThen]
theorem Bk.set4 {w : World} {g : Nat} {t : TypeId} {a0 a1 a2 a3 : Value} (h : Bk w g t #[a0, a1, a2, a3]) (v0 v1 v2 v3 : Value) : Bk ((((w.setCell ⟨g, 0, none⟩ v0).setCell ⟨g, 1, none⟩ v1).setCell ⟨g, 2, none⟩ v2).setCell ⟨g, 3, none⟩ v3) g t #[v0, v1, v2, v3] :=
 (((h.set_ 0 v0).set_ 1 v1).set_ 2 v2).set_ 3 v3
theorem mul_1 (x y : Int) (w : World) (hx : 0 ≤ x ∧ x ≤ 40) (hy : 0 ≤ y ∧ y ≤ 40) : Calls Tryz.prog 234 #[.int .i64 x, .int .i64 y] w fun e w' => e = .returned (.int .i64 (x + y)) ∧ w = w' := by
 have h : IntKind.i64.wrap (x + y) = x + y := by rw [IntKind.wrap_i64]; omega
 go_enter Tryz.func234, Tryz.ntmps234
 go_wp2_with fail
 go_ret
 exact ⟨rfl, rfl⟩
theorem zip_mul (a b z : MonD) (hz : z = ⟨a.x0 + b.x0, a.x1 + b.x1, a.x2 + b.x2, a.x3 + b.x3⟩) (w : World) (hma : monMay a = true) (hmb : monMay b = true) :
    Calls Tryz.prog 162 #[.agg #[.int .i64 a.x0, .int .i64 a.x1, .int .i64 a.x2, .int .i64 a.x3], .agg #[.int .i64 b.x0, .int .i64 b.x1, .int .i64 b.x2, .int .i64 b.x3], .func (.func 234) #[] #[]] w fun e w' => e = .returned (.agg #[.int .i64 (z).x0, .int .i64 (z).x1, .int .i64 (z).x2, .int .i64 (z).x3]) ∧ Blw w.heap.size w w' := by
 obtain ⟨ra0, ra1, ra2, ra3⟩ := monMay_of hma
 obtain ⟨rb0, rb1, rb2, rb3⟩ := monMay_of hmb
 have F0 := aa (fun W => mul_1 a.x0 b.x0 W (by omega) (by omega))
 have F1 := aa (fun W => mul_1 a.x1 b.x1 W (by omega) (by omega))
 have F2 := aa (fun W => mul_1 a.x2 b.x2 W (by omega) (by omega))
 have F3 := aa (fun W => mul_1 a.x3 b.x3 W (by omega) (by omega))
 have z0 : a.x0 + b.x0 = z.x0 := by rw [hz]
 have z1 : a.x1 + b.x1 = z.x1 := by rw [hz]
 have z2 : a.x2 + b.x2 = z.x2 := by rw [hz]
 have z3 : a.x3 + b.x3 = z.x3 := by rw [hz]
 rw [z0] at F0; rw [z1] at F1; rw [z2] at F2; rw [z3] at F3
 clear hz z0 z1 z2 z3 ra0 ra1 ra2 ra3 rb0 rb1 rb2 rb3 hma hmb
 go_enter Tryz.func162, Tryz.ntmps162
 go_upto_region 1 with (fail)
 refine wp_gen (fun W => ∃ g3, g3 = w.heap.size + 1 + 1 ∧ Bm2 w.heap.size w.heap.size (w.heap.size + 1) w W a b ∧ Bk W g3 66 #[.int .i64 (part z 0).x0, .int .i64 (part z 0).x1, .int .i64 (part z 0).x2, .int .i64 (part z 0).x3]) ⟨_, rfl, (Bm2.mk2 w a b).up ((Blw.refl _ _).alloc (ae _) _), by
  have := Bk.new_ ((w.alloc (Obj.cells #[.int .i64 a.x0, .int .i64 a.x1, .int .i64 a.x2, .int .i64 a.x3] 66)).alloc (Obj.cells #[.int .i64 b.x0, .int .i64 b.x1, .int .i64 b.x2, .int .i64 b.x3] 66)) 66 #[.int .i64 (part z 0).x0, .int .i64 (part z 0).x1, .int .i64 (part z 0).x2, .int .i64 (part z 0).x3]
  simpa [part] using this⟩ ?_
 rintro W ⟨⟨g3, hg3, BX, K3⟩⟩
 have n3 : w.heap.size ≤ g3 ∧ g3 ≠ w.heap.size ∧ g3 ≠ w.heap.size + 1 := by omega
 rw [← hg3]
 have BX := aa BX
 have K3 := aa K3
 clear hg3
 generalize w.heap.size + 1 = g2 at BX n3 ⊢
 obtain ⟨n3a, n3b, n3c⟩ := n3
 go_wp2_with fail
 go_loopw [8] (fun v8 wr => ∃ i : Nat, v8 = .int .i64 i ∧ i ≤ 4 ∧ Hd (Bm2 w.heap.size w.heap.size g2 w wr a b) ∧ Hd (Bk wr g3 66 #[.int .i64 (part z i).x0, .int .i64 (part z i).x1, .int .i64 (part z i).x2, .int .i64 (part z i).x3])) (fun v _ => 4 - (intOf v).toNat)
 case atStart => exact ⟨0, rfl, by omega, BX, K3⟩
 case round =>
  clear BX K3
  obtain ⟨i, rfl, hi, BX, K3⟩ := hrel
  obtain ⟨c0, c1, c2, c3⟩ := BX.out.k1.four
  obtain ⟨d0, d1, d2, d3⟩ := BX.out.k2.four
  rcases (show i = 0 ∨ i = 1 ∨ i = 2 ∨ i = 3 ∨ i = 4 by omega) with rfl | rfl | rfl | rfl | rfl
  ·have k3 : Bk wr g3 66 #[.int .i64 (part z 0).x0, .int .i64 (part z 0).x1, .int .i64 (part z 0).x2, .int .i64 (part z 0).x3] := K3.out
   obtain ⟨e0, e1, e2, e3⟩ := k3.four
   have fz := k3.froz 0
   clear k3
   go_wp2_with fail
   go_region_held3 (fun w' => Hd (Blw w.heap.size w w') ∧ w'.cell? ⟨w.heap.size, 0, none⟩ = some (.int .i64 a.x0) ∧ w'.cell? ⟨g2, 0, none⟩ = some (.int .i64 b.x0))
    (first
     | exact ⟨⟨BX.out.below⟩, c0, d0⟩
     | exact ⟨⟨(BX.out.dn 1).below⟩, c0, d0⟩
     | exact ⟨⟨(BX.out.dn 1).below.setCell n3a _⟩, (far1 rfl n3b).trans c0, (far1 rfl n3c).trans d0⟩)
    (first | (go_at_call 234; with_reducible refine (F0.out _).mono ?_; rintro e w4 ⟨rfl, rfl⟩))
   all_goals (
    go_wp2_with fail
    go_roundw
    case measure => first | (simp [intOf]; done) | (simp [intOf]; omega)
    case rel =>
     refine ⟨1, rfl, by omega, ⟨⟨(BX.out.dn 1).below.setCell n3a _, BX.out.s1, BX.out.s2, BX.out.n12, (BX.out.dn 1).k1.far n3b.symm _, (BX.out.dn 1).k2.far n3c.symm _⟩⟩, ⟨?_⟩⟩
     exact (show Bk wr.drew g3 66 #[.int .i64 (part z 0).x0, .int .i64 (part z 0).x1, .int .i64 (part z 0).x2, .int .i64 (part z 0).x3] from K3.out).set_ 0 (.int .i64 z.x0))
  ·have k3 : Bk wr g3 66 #[.int .i64 (part z 1).x0, .int .i64 (part z 1).x1, .int .i64 (part z 1).x2, .int .i64 (part z 1).x3] := K3.out
   obtain ⟨e0, e1, e2, e3⟩ := k3.four
   have fz := k3.froz 1
   clear k3
   go_wp2_with fail
   go_region_held3 (fun w' => Hd (Blw w.heap.size w w') ∧ w'.cell? ⟨w.heap.size, 1, none⟩ = some (.int .i64 a.x1) ∧ w'.cell? ⟨g2, 1, none⟩ = some (.int .i64 b.x1))
    (first
     | exact ⟨⟨BX.out.below⟩, c1, d1⟩
     | exact ⟨⟨(BX.out.dn 1).below⟩, c1, d1⟩
     | exact ⟨⟨(BX.out.dn 1).below.setCell n3a _⟩, (far1 rfl n3b).trans c1, (far1 rfl n3c).trans d1⟩)
    (first | (go_at_call 234; with_reducible refine (F1.out _).mono ?_; rintro e w4 ⟨rfl, rfl⟩))
   all_goals (
    go_wp2_with fail
    go_roundw
    case measure => first | (simp [intOf]; done) | (simp [intOf]; omega)
    case rel =>
     refine ⟨2, rfl, by omega, ⟨⟨(BX.out.dn 1).below.setCell n3a _, BX.out.s1, BX.out.s2, BX.out.n12, (BX.out.dn 1).k1.far n3b.symm _, (BX.out.dn 1).k2.far n3c.symm _⟩⟩, ⟨?_⟩⟩
     exact (show Bk wr.drew g3 66 #[.int .i64 (part z 1).x0, .int .i64 (part z 1).x1, .int .i64 (part z 1).x2, .int .i64 (part z 1).x3] from K3.out).set_ 1 (.int .i64 z.x1))
  ·have k3 : Bk wr g3 66 #[.int .i64 (part z 2).x0, .int .i64 (part z 2).x1, .int .i64 (part z 2).x2, .int .i64 (part z 2).x3] := K3.out
   obtain ⟨e0, e1, e2, e3⟩ := k3.four
   have fz := k3.froz 2
   clear k3
   go_wp2_with fail
   go_region_held3 (fun w' => Hd (Blw w.heap.size w w') ∧ w'.cell? ⟨w.heap.size, 2, none⟩ = some (.int .i64 a.x2) ∧ w'.cell? ⟨g2, 2, none⟩ = some (.int .i64 b.x2))
    (first
     | exact ⟨⟨BX.out.below⟩, c2, d2⟩
     | exact ⟨⟨(BX.out.dn 1).below⟩, c2, d2⟩
     | exact ⟨⟨(BX.out.dn 1).below.setCell n3a _⟩, (far1 rfl n3b).trans c2, (far1 rfl n3c).trans d2⟩)
    (first | (go_at_call 234; with_reducible refine (F2.out _).mono ?_; rintro e w4 ⟨rfl, rfl⟩))
   all_goals (
    go_wp2_with fail
    go_roundw
    case measure => first | (simp [intOf]; done) | (simp [intOf]; omega)
    case rel =>
     refine ⟨3, rfl, by omega, ⟨⟨(BX.out.dn 1).below.setCell n3a _, BX.out.s1, BX.out.s2, BX.out.n12, (BX.out.dn 1).k1.far n3b.symm _, (BX.out.dn 1).k2.far n3c.symm _⟩⟩, ⟨?_⟩⟩
     exact (show Bk wr.drew g3 66 #[.int .i64 (part z 2).x0, .int .i64 (part z 2).x1, .int .i64 (part z 2).x2, .int .i64 (part z 2).x3] from K3.out).set_ 2 (.int .i64 z.x2))
  ·have k3 : Bk wr g3 66 #[.int .i64 (part z 3).x0, .int .i64 (part z 3).x1, .int .i64 (part z 3).x2, .int .i64 (part z 3).x3] := K3.out
   obtain ⟨e0, e1, e2, e3⟩ := k3.four
   have fz := k3.froz 3
   clear k3
   go_wp2_with fail
   go_region_held3 (fun w' => Hd (Blw w.heap.size w w') ∧ w'.cell? ⟨w.heap.size, 3, none⟩ = some (.int .i64 a.x3) ∧ w'.cell? ⟨g2, 3, none⟩ = some (.int .i64 b.x3))
    (first
     | exact ⟨⟨BX.out.below⟩, c3, d3⟩
     | exact ⟨⟨(BX.out.dn 1).below⟩, c3, d3⟩
     | exact ⟨⟨(BX.out.dn 1).below.setCell n3a _⟩, (far1 rfl n3b).trans c3, (far1 rfl n3c).trans d3⟩)
    (first | (go_at_call 234; with_reducible refine (F3.out _).mono ?_; rintro e w4 ⟨rfl, rfl⟩))
   all_goals (
    go_wp2_with fail
    go_roundw
    case measure => first | (simp [intOf]; done) | (simp [intOf]; omega)
    case rel =>
     refine ⟨4, rfl, by omega, ⟨⟨(BX.out.dn 1).below.setCell n3a _, BX.out.s1, BX.out.s2, BX.out.n12, (BX.out.dn 1).k1.far n3b.symm _, (BX.out.dn 1).k2.far n3c.symm _⟩⟩, ⟨?_⟩⟩
     exact (show Bk wr.drew g3 66 #[.int .i64 (part z 3).x0, .int .i64 (part z 3).x1, .int .i64 (part z 3).x2, .int .i64 (part z 3).x3] from K3.out).set_ 3 (.int .i64 z.x3))
  ·have k3 : Bk wr g3 66 #[.int .i64 (z).x0, .int .i64 (z).x1, .int .i64 (z).x2, .int .i64 (z).x3] := K3.out
   obtain ⟨e0, e1, e2, e3⟩ := k3.four
   have fz := fun i => k3.froz i
   have K4 := aa k3
   clear k3 K3
   go_wp2_with fail
   refine bodyPost_ret (res_mono rfl _ _ g3 _ rfl (K4.out.set4 _ _ _ _) rfl) rfl ?_
   exact ⟨rfl, (((BX.out.below.setCell n3a _).setCell n3a _).setCell n3a _).setCell n3a _⟩
end Go.Proofs.YtgjkgkgieeoalaaGreat
