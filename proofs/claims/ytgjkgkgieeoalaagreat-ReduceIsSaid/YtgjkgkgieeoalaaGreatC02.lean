/- Parts of the proof, joined: each theorem says what it shows. -/
import Derived.Test.YtgjkgkgieeoalaaGreatC01
import Derived.Shelf.Small.Bits
import Derived.Shelf.Small.Wraps
import Derived.Shelf.Strconv.Itoa0
import Derived.Shelf.Bits.Mul64
import Derived.Shelf.Slices.Reverse
import Derived.Ground.Names2Prog
import Derived.Shelf.Slices.SearchI
import Derived.Shelf.Slices.Cells
import Derived.Ground.SlgnProg
import Derived.Shelf.SlicesE.Clone
import Derived.Test.YtgjkgkgieeoalaaGreatProg
set_option linter.unusedVariables false
set_option linter.unusedSimpArgs false
set_option maxHeartbeats 24000000
set_option maxRecDepth 100000
namespace Go.Proofs
open Go.Shelf
def Tryz.lays125_ren : Go.Shelf.Ren := ⟨fun | 125 => 191 | 128 => 252 | 129 => 136 | n => n, fun | 46 => 211 | 3 => 3 | 51 => 278 | 53 => 112 | 4 => 4 | 5 => 5 | 9 => 9 | n => n, fun | n => n⟩
theorem Tryz.lays125 : Go.Proofs.Lays.n125 Tryz.prog Tryz.lays125_ren := {
 mixed := by kernel_rfl
 f125 := Tryz.func191.trans (congrArg some (by kernel_rfl))
 f128 := Tryz.func252.trans (congrArg some (by kernel_rfl))
 f129 := Tryz.func136.trans (congrArg some (by kernel_rfl))
 t3 := Tryz.underlying3
 a3 := Tryz.isAgg3
 z3 := Tryz.sizeOf3
 v3 := Tryz.zeroValue3
 t4 := Tryz.underlying4
 a4 := Tryz.isAgg4
 z4 := Tryz.sizeOf4
 v4 := Tryz.zeroValue4
 t5 := Tryz.underlying5
 a5 := Tryz.isAgg5
 z5 := Tryz.sizeOf5
 v5 := Tryz.zeroValue5
 t9 := Tryz.underlying9
 a9 := Tryz.isAgg9
 z9 := Tryz.sizeOf9
 v9 := Tryz.zeroValue9
 t46 := Tryz.underlying211
 a46 := Tryz.isAgg211
 z46 := Tryz.sizeOf211
 v46 := Tryz.zeroValue211
 t51 := Tryz.underlying278
 a51 := Tryz.isAgg278
 z51 := Tryz.sizeOf278
 v51 := Tryz.zeroValue278
 t53 := Tryz.underlying112
 a53 := Tryz.isAgg112
 z53 := Tryz.sizeOf112
 v53 := Tryz.zeroValue112 }
theorem Tryz.bits_Len (x : Int) (w : World) (h0 : 0 ≤ x) (h1 : x ≤ 18446744073709551615) :
    Calls Tryz.prog 191 #[.int .u64 x] w fun e w' => e = .returned (.int .i64 (Lib.bitLen x.toNat)) ∧ w' = w := Any.bits_Len Tryz.lays125 x w h0 h1
def Tryz.lays134_ren : Go.Shelf.Ren := ⟨fun | 134 => 277 | 129 => 136 | n => n, fun | 53 => 112 | 3 => 3 | 4 => 4 | 46 => 211 | 5 => 5 | 9 => 9 | n => n, fun | n => n⟩
theorem Tryz.lays134 : Go.Proofs.Lays.n134 Tryz.prog Tryz.lays134_ren := {
 mixed := by kernel_rfl
 f129 := Tryz.func136.trans (congrArg some (by kernel_rfl))
 f134 := Tryz.func277.trans (congrArg some (by kernel_rfl))
 t3 := Tryz.underlying3
 a3 := Tryz.isAgg3
 z3 := Tryz.sizeOf3
 v3 := Tryz.zeroValue3
 t4 := Tryz.underlying4
 a4 := Tryz.isAgg4
 z4 := Tryz.sizeOf4
 v4 := Tryz.zeroValue4
 t5 := Tryz.underlying5
 a5 := Tryz.isAgg5
 z5 := Tryz.sizeOf5
 v5 := Tryz.zeroValue5
 t9 := Tryz.underlying9
 a9 := Tryz.isAgg9
 z9 := Tryz.sizeOf9
 v9 := Tryz.zeroValue9
 t46 := Tryz.underlying211
 a46 := Tryz.isAgg211
 z46 := Tryz.sizeOf211
 v46 := Tryz.zeroValue211
 t53 := Tryz.underlying112
 a53 := Tryz.isAgg112
 z53 := Tryz.sizeOf112
 v53 := Tryz.zeroValue112 }
theorem Tryz.bits_LeadingZeros64 (x : Int) (w : World) (h0 : 0 ≤ x) (h1 : x ≤ 18446744073709551615) :
    Calls Tryz.prog 277 #[.int .u64 x] w fun e w' => e = .returned (.int .i64 (64 - (Lib.bitLen x.toNat : Int))) ∧ w' = w := Any.bits_LeadingZeros64 Tryz.lays134 x w h0 h1
def Tryz.lays215_ren : Go.Shelf.Ren := ⟨fun | 215 => 253 | n => n, fun | 3 => 3 | 4 => 4 | n => n, fun | n => n⟩
theorem Tryz.lays215 : Go.Proofs.Lays.n215 Tryz.prog Tryz.lays215_ren := {
 mixed := by kernel_rfl
 f215 := Tryz.func253.trans (congrArg some (by kernel_rfl))
 t3 := Tryz.underlying3
 a3 := Tryz.isAgg3
 z3 := Tryz.sizeOf3
 v3 := Tryz.zeroValue3
 t4 := Tryz.underlying4
 a4 := Tryz.isAgg4
 z4 := Tryz.sizeOf4
 v4 := Tryz.zeroValue4 }
open Go.RowKit in
theorem Tryz.cmp_isNaN_int (x : Int) (w : World) :
    Calls Tryz.prog 253 #[.int .i64 x] w fun e w' => e = .returned (.bool false) ∧ w' = w := Any.cmp_isNaN_int Tryz.lays215 x w
def Tryz.lays264_ren : Go.Shelf.Ren := ⟨fun | 264 => 228 | n => n, fun | 53 => 112 | 46 => 211 | n => n, fun | n => n⟩
theorem Tryz.lays264 : Go.Proofs.Lays.n264 Tryz.prog Tryz.lays264_ren := {
 mixed := by kernel_rfl
 f264 := Tryz.func228.trans (congrArg some (by kernel_rfl))
 t46 := Tryz.underlying211
 a46 := Tryz.isAgg211
 z46 := Tryz.sizeOf211
 v46 := Tryz.zeroValue211
 t53 := Tryz.underlying112
 a53 := Tryz.isAgg112
 z53 := Tryz.sizeOf112
 v53 := Tryz.zeroValue112 }
open Go.RowKit Go.Lib in
theorem Tryz.bits_Mul64 (x y : Nat) (hx : x < 18446744073709551616) (hy : y < 18446744073709551616) (w : World) :
    Calls Tryz.prog 228 #[.int .u64 x, .int .u64 y] w fun e w' => e = .returned (.tuple #[.int .u64 ((x * y / 18446744073709551616 : Nat) : Int), .int .u64 ((x * y % 18446744073709551616 : Nat) : Int)]) ∧ w' = w := Any.bits_Mul64 Tryz.lays264 x y hx hy w
def Tryz.lays112_ren : Go.Shelf.Ren := ⟨fun | 112 => 200 | n => n, fun | 28 => 171 | 3 => 3 | 4 => 4 | 0 => 0 | n => n, fun | n => n⟩
theorem Tryz.lays112 : Go.Proofs.Lays.n112 Tryz.prog Tryz.lays112_ren := {
 mixed := by kernel_rfl
 f112 := Tryz.func200.trans (congrArg some (by kernel_rfl))
 t0 := Tryz.underlying0
 a0 := Tryz.isAgg0
 z0 := Tryz.sizeOf0
 v0 := Tryz.zeroValue0
 t3 := Tryz.underlying3
 a3 := Tryz.isAgg3
 z3 := Tryz.sizeOf3
 v3 := Tryz.zeroValue3
 t4 := Tryz.underlying4
 a4 := Tryz.isAgg4
 z4 := Tryz.sizeOf4
 v4 := Tryz.zeroValue4
 t28 := Tryz.underlying171
 a28 := Tryz.isAgg171
 z28 := Tryz.sizeOf171
 v28 := Tryz.zeroValue171 }
open Go.RowKit Go.Lib Go.Sort in
theorem Tryz.slices_Reverse_int_cells (b off n c : Nat) (zs : List Int) (w : World) (hz : n ≤ zs.length) (hbig : n ≤ 9223372036854775807) (hc : ∀ j, j < zs.length → w.cell? ⟨b, off + j, none⟩ = some (.int .i64 (zs.getD j 0))) (hf : ∀ j, j < n → w.frozen? ⟨b, off + j, none⟩ = false) :
    Calls Tryz.prog 200 #[.slice (some ⟨b, off, none⟩) n c] w fun e w' => e = .returned (.tuple #[]) ∧ ∃ q, w' = (w.drewN q).setCells b off ((zs.take n).reverse.map (Value.int .i64)) := Any.slices_Reverse_int_cells Tryz.lays112 b off n c zs w hz hbig hc hf
end Go.Proofs
namespace Go.Proofs.YtgjkgkgieeoalaaGreat
open Go.RowKit
structure MonD where
 x0 : Int
 x1 : Int
 x2 : Int
 x3 : Int
deriving DecidableEq
def MonD.l (m : MonD) : List Int := [m.x0, m.x1, m.x2, m.x3]
def badE (x : Int) : Bool := decide (x < 0) || decide (40 < x)
def monMay (m : MonD) : Bool := !(m.l.any badE)
theorem monMay_of {m : MonD} (h : monMay m = true) : (0 ≤ m.x0 ∧ m.x0 ≤ 40) ∧ (0 ≤ m.x1 ∧ m.x1 ≤ 40) ∧ (0 ≤ m.x2 ∧ m.x2 ≤ 40) ∧ (0 ≤ m.x3 ∧ m.x3 ≤ 40) := by
 simp only [monMay, MonD.l, List.any_cons, List.any_nil, badE, Bool.or_false, Bool.not_eq_true', Bool.or_eq_false_iff, decide_eq_false_iff_not] at h
 omega
theorem May_1 (x : Int) (w : World) : Calls Tryz.prog 224 #[.int .i64 x] w fun e w' => e = .returned (.bool (badE x)) ∧ w = w' := by
 by_cases h1 : x < 0
 ·have e1 : decide (x < 0) = true := decide_eq_true h1
  have hb : Hd (badE x = true) := ⟨by unfold badE; rw [e1]; rfl⟩
  go_enter Tryz.func224, Tryz.ntmps224
  go_wp2_with fail
  go_ret
  exact ⟨retBool hb.out.symm, rfl⟩
 ·have e1 : decide (x < 0) = false := decide_eq_false h1
  by_cases h2 : 40 < x
  ·have e2 : decide (40 < x) = true := decide_eq_true h2
   have hb : Hd (badE x = true) := ⟨by unfold badE; rw [e1, e2]; rfl⟩
   go_enter Tryz.func224, Tryz.ntmps224
   go_wp2_with fail
   go_ret
   exact ⟨retBool hb.out.symm, rfl⟩
  ·have e2 : decide (40 < x) = false := decide_eq_false h2
   have hb : Hd (badE x = false) := ⟨by unfold badE; rw [e1, e2]; rfl⟩
   go_enter Tryz.func224, Tryz.ntmps224
   go_wp2_with fail
   go_ret
   exact ⟨retBool hb.out.symm, rfl⟩
theorem index_badE (A : Option Addr) (c : Nat) (l : List Int) (w : World) (h : RdI w .i64 A l) (hn : l.length ≤ c) (h6 : l.length ≤ 100000000) :
    Calls Tryz.prog 208 #[.slice A l.length c, .func (.func 224) #[] #[]] w fun e w' => ∃ i : Int, e = .returned (.int .i64 i) ∧ decide (0 ≤ i) = l.any badE ∧ w = w' := by
 have H := Hd.mk h
 clear h
 go_enter Tryz.func208, Tryz.ntmps208
 go_wp2_with fail
 go_loop [8] (fun v => ∃ i : Nat, v = .int .i64 i ∧ i ≤ l.length ∧ Hd ((l.take i).any badE = false)) (fun v => l.length - (intOf v).toNat)
 case atStart => exact ⟨0, rfl, by omega, ⟨rfl⟩⟩
 case round =>
  obtain ⟨i, rfl, hi, ht⟩ := hrel
  by_cases hlt : i < l.length
  ·obtain ⟨ad, x, rfl, _, hx, hcell⟩ := H.out.get hlt
   have i2 : (i : Int) < l.length := by omega
   have hsn : Hd ((l.take (i + 1)).any badE = ((l.take i).any badE || badE x)) := ⟨by rw [take_snoc hlt, List.any_append, hx.out]; simp⟩
   have CB := Hd.mk (May_1 x w)
   cases h8 : badE x
   ·rw [h8] at CB hsn
    clear h8
    go_wp2_with fail
    refine CB.out.mono ?_
    rintro e w' ⟨rfl, rfl⟩
    go_wp2_with fail
    go_round
    case measure => first | (simp [intOf]; done) | (simp [intOf]; omega)
    case rel => exact ⟨i + 1, by go_num, by omega, ⟨by rw [hsn.out, ht.out]; rfl⟩⟩
   ·rw [h8] at CB hsn
    clear h8
    go_wp2_with fail
    refine CB.out.mono ?_
    rintro e w' ⟨rfl, rfl⟩
    go_wp2_with fail
    go_ret
    refine ⟨_, rfl, ?_, rfl⟩
    have h1 := hsn.out
    rw [Bool.or_true] at h1
    rw [decide_eq_true (by omega : (0 : Int) ≤ i)]
    conv => rhs; rw [← List.take_append_drop (i + 1) l]
    rw [List.any_append, h1]; rfl
  ·have hie : i = l.length := by omega
   subst hie
   go_wp2_with fail
   go_ret
   refine ⟨_, rfl, ?_, rfl⟩
   have := ht.out
   rw [List.take_length] at this
   rw [this]; rfl
theorem arr_new (w : World) (m : MonD) (t : TypeId) : RdI (w.alloc (.cells #[.int .i64 m.x0, .int .i64 m.x1, .int .i64 m.x2, .int .i64 m.x3] t)) .i64 (some ⟨w.heap.size, 0, none⟩) m.l := by
 have := Rd.new_ w #[.int .i64 m.x0, .int .i64 m.x1, .int .i64 m.x2, .int .i64 m.x3] t 4 1 rfl
 unfold RdI
 rw [show (w.alloc (.cells #[.int .i64 m.x0, .int .i64 m.x1, .int .i64 m.x2, .int .i64 m.x3] t)).heap.size = w.heap.size + 1 by simp]
 exact this
theorem mono_May (m : MonD) (w : World) :
    Calls Tryz.prog 161 #[.agg #[.int .i64 m.x0, .int .i64 m.x1, .int .i64 m.x2, .int .i64 m.x3]] w fun e w' => e = .returned (.bool (monMay m)) ∧ Blw w.heap.size w w' := by
 have hb : Hd (Blw w.heap.size w (w.alloc (.cells #[.int .i64 m.x0, .int .i64 m.x1, .int .i64 m.x2, .int .i64 m.x3] 66))) := ⟨(Blw.refl _ _).alloc (Nat.le_refl _) _⟩
 have hi := Hd.mk (index_badE (some ⟨w.heap.size, 0, none⟩) 4 m.l _ (arr_new w m 66) (Nat.le_refl _) (by simp [MonD.l]))
 have hc : Calls Tryz.prog 128 #[.slice (some ⟨w.heap.size, 0, none⟩) 4 4, .func (.func 224) #[] #[]] (w.alloc (.cells #[.int .i64 m.x0, .int .i64 m.x1, .int .i64 m.x2, .int .i64 m.x3] 66)) fun e w' => e = .returned (.bool (m.l.any badE)) ∧ (w.alloc (.cells #[.int .i64 m.x0, .int .i64 m.x1, .int .i64 m.x2, .int .i64 m.x3] 66)) = w' := by
  go_enter Tryz.func128, Tryz.ntmps128
  go_wp2_with fail
  refine hi.out.mono ?_
  rintro e w' ⟨i, rfl, hib, rfl⟩
  have HIB := Hd.mk hib
  clear hib
  go_wp2_with fail
  go_ret
  exact ⟨retBool HIB.out, rfl⟩
 have HC := Hd.mk hc
 clear hc
 go_enter Tryz.func161, Tryz.ntmps161
 go_wp2_with fail
 refine HC.out.mono ?_
 rintro e w' ⟨rfl, rfl⟩
 go_wp2_with fail
 go_ret
 exact ⟨rfl, hb.out⟩
def cmpI (x y : Int) : Int := if x < y then -1 else if y < x then 1 else 0
theorem cmp_Compare (x y : Int) (w : World) : Calls Tryz.prog 197 #[.int .i64 x, .int .i64 y] w fun e w' => e = .returned (.int .i64 (cmpI x y)) ∧ w = w' := by
 have N1 := Hd.mk (Tryz.cmp_isNaN_int x w)
 have N2 := Hd.mk (Tryz.cmp_isNaN_int y w)
 by_cases h1 : x < y
 ·have hc : Hd (cmpI x y = -1) := ⟨by unfold cmpI; rw [if_pos h1]⟩
  go_enter Tryz.func197, Tryz.ntmps197
  go_wp2_with fail
  refine N1.out.mono ?_
  rintro e w' ⟨rfl, rfl⟩
  go_wp2_with fail
  refine N2.out.mono ?_
  rintro e w' ⟨rfl, rfl⟩
  go_wp2_with fail
  go_ret
  exact ⟨retInt hc.out.symm, rfl⟩
 ·by_cases h2 : y < x
  ·have hc : Hd (cmpI x y = 1) := ⟨by unfold cmpI; rw [if_neg h1, if_pos h2]⟩
   go_enter Tryz.func197, Tryz.ntmps197
   go_wp2_with fail
   refine N1.out.mono ?_
   rintro e w' ⟨rfl, rfl⟩
   go_wp2_with fail
   refine N2.out.mono ?_
   rintro e w' ⟨rfl, rfl⟩
   go_wp2_with fail
   go_ret
   exact ⟨retInt hc.out.symm, rfl⟩
  ·have hc : Hd (cmpI x y = 0) := ⟨by unfold cmpI; rw [if_neg h1, if_neg h2]⟩
   go_enter Tryz.func197, Tryz.ntmps197
   go_wp2_with fail
   refine N1.out.mono ?_
   rintro e w' ⟨rfl, rfl⟩
   go_wp2_with fail
   refine N2.out.mono ?_
   rintro e w' ⟨rfl, rfl⟩
   go_wp2_with fail
   go_ret
   exact ⟨retInt hc.out.symm, rfl⟩
def lexC : List Int → List Int → Int
 | x :: l, y :: m => if cmpI x y ≠ 0 then cmpI x y else lexC l m
 | _, _ => 0
theorem slices_Compare (A B : Option Addr) (c d : Nat) (l m : List Int) (w : World) (h : RdI w .i64 A l) (hn : l.length ≤ c) (h' : RdI w .i64 B m) (hn' : m.length ≤ d) (hl : l.length = m.length) (h9 : l.length ≤ 1000000) :
    Calls Tryz.prog 193 #[.slice A l.length c, .slice B m.length d] w fun e w' => e = .returned (.int .i64 (lexC l m)) ∧ w = w' := by
 have HL := Hd.mk hl
 have H := Hd.mk h
 have H' := Hd.mk h'
 clear h h' hl
 go_enter Tryz.func193, Tryz.ntmps193
 go_wp2_with fail
 go_loop [11] (fun v => ∃ i : Nat, v = .int .i64 i ∧ i ≤ l.length ∧ Hd (lexC l m = lexC (l.drop i) (m.drop i))) (fun v => l.length - (intOf v).toNat)
 case atStart => exact ⟨0, rfl, by omega, ⟨rfl⟩⟩
 case round =>
  obtain ⟨i, rfl, hi, ht⟩ := hrel
  by_cases hlt : i < l.length
  ·have hlt2 : i < m.length := by have := HL.out; omega
   obtain ⟨ad, x, rfl, _, hx, hcx⟩ := H.out.get hlt
   obtain ⟨bd, y, rfl, _, hy, hcy⟩ := H'.out.get hlt2
   have i1 : (i : Int) < m.length := by omega
   have i2 : (i : Int) < l.length := by omega
   have CC := Hd.mk (cmp_Compare x y w)
   have hst : Hd (lexC (l.drop i) (m.drop i) = if cmpI x y ≠ 0 then cmpI x y else lexC (l.drop (i + 1)) (m.drop (i + 1))) := ⟨by rw [drop_at hlt, drop_at hlt2, hx.out, hy.out, lexC]⟩
   obtain ⟨k, hk⟩ : ∃ k, cmpI x y = k := ⟨_, rfl⟩
   rw [hk] at CC hst
   clear hk
   by_cases hk0 : k = 0
   ·subst hk0
    go_wp2_with fail
    refine CC.out.mono ?_
    rintro e w' ⟨rfl, rfl⟩
    go_wp2_with fail
    go_round
    case measure => first | (simp [intOf]; done) | (simp [intOf]; omega)
    case rel => exact ⟨i + 1, by go_num, by omega, ⟨by rw [ht.out, hst.out]; rfl⟩⟩
   ·have hk1 : (k != 0) = true := by rw [bne_iff_ne]; exact hk0
    go_wp2_with fail
    refine CC.out.mono ?_
    rintro e w' ⟨rfl, rfl⟩
    go_wp2_with fail
    go_ret
    refine ⟨retInt ?_, rfl⟩
    rw [ht.out, hst.out, if_pos hk0]
  ·have hie : i = l.length := by omega
   subst hie
   have hr : ¬ ((l.length : Int) < m.length) := by have := HL.out; omega
   go_wp2_with fail
   go_ret
   refine ⟨retInt ?_, rfl⟩
   rw [ht.out, List.drop_length]; rfl
theorem put_eq {K : Act → World → Prop} {a : Act} {d : Option Tmp} {v u : Value} {w : World} (e : v = u) (h : K (a.put d u) w) : K (a.put d v) w := e ▸ h
def preS (m : MonD) : Nat → Int
 | 0 => 0
 | 1 => m.x0
 | 2 => m.x0 + m.x1
 | 3 => m.x0 + m.x1 + m.x2
 | _ => m.x0 + m.x1 + m.x2 + m.x3
def monDeg (m : MonD) : Int := if monMay m then m.x0 + m.x1 + m.x2 + m.x3 else 0
theorem mono_Degree (m : MonD) (w : World) :
    Calls Tryz.prog 198 #[.agg #[.int .i64 m.x0, .int .i64 m.x1, .int .i64 m.x2, .int .i64 m.x3]] w fun e w' => e = .returned (.int .i64 (monDeg m)) ∧ Blw w.heap.size w w' := by
 have hb : Hd (Blw w.heap.size w (w.alloc (.cells #[.int .i64 m.x0, .int .i64 m.x1, .int .i64 m.x2, .int .i64 m.x3] 66))) := ⟨(Blw.refl _ _).alloc (Nat.le_refl _) _⟩
 have CM := Hd.mk (mono_May m (w.alloc (.cells #[.int .i64 m.x0, .int .i64 m.x1, .int .i64 m.x2, .int .i64 m.x3] 66)))
 have k1 := Hd.mk (Bk.new_ w 66 #[.int .i64 m.x0, .int .i64 m.x1, .int .i64 m.x2, .int .i64 m.x3])
 cases hm : monMay m
 ·rw [hm] at CM
  have HD : Hd (monDeg m = 0) := ⟨by unfold monDeg; rw [hm]; rfl⟩
  clear hm
  go_enter Tryz.func198, Tryz.ntmps198
  go_wp2_with fail
  refine CM.out.mono ?_
  rintro e w2 ⟨rfl, hb2⟩
  have HB := Hd.mk (hb.out.trans (hb2.mono hb.out.size))
  clear hb2
  go_wp2_with fail
  go_ret
  exact ⟨retInt HD.out.symm, HB.out⟩
 ·rw [hm] at CM
  have HD : Hd (monDeg m = m.x0 + m.x1 + m.x2 + m.x3) := ⟨by unfold monDeg; rw [hm]; rfl⟩
  obtain ⟨b0, b1, b2, b3⟩ := monMay_of hm
  clear hm
  go_enter Tryz.func198, Tryz.ntmps198
  go_wp2_with fail
  refine CM.out.mono ?_
  rintro e w2 ⟨rfl, hb2⟩
  have HB := Hd.mk (hb.out.trans (hb2.mono hb.out.size))
  have k2 := k1.out.up hb2.lo
  have c0 : w2.cell? ⟨w.heap.size, 0, none⟩ = some (.int .i64 m.x0) := by rw [k2.cell]; rfl
  have c1 : w2.cell? ⟨w.heap.size, 1, none⟩ = some (.int .i64 m.x1) := by rw [k2.cell]; rfl
  have c2 : w2.cell? ⟨w.heap.size, 2, none⟩ = some (.int .i64 m.x2) := by rw [k2.cell]; rfl
  have c3 : w2.cell? ⟨w.heap.size, 3, none⟩ = some (.int .i64 m.x3) := by rw [k2.cell]; rfl
  clear hb2 k2
  go_wp2_with fail
  go_loop [2, 9] (fun v2 v9 => ∃ i : Nat, v9 = .int .i64 i ∧ v2 = .int .i64 (preS m i) ∧ i ≤ 4) (fun _ v => 4 - (intOf v).toNat)
  case atStart => exact ⟨0, rfl, rfl, by omega⟩
  case round =>
   obtain ⟨i, rfl, rfl, hi⟩ := hrel
   rcases (show i = 0 ∨ i = 1 ∨ i = 2 ∨ i = 3 ∨ i = 4 by omega) with rfl | rfl | rfl | rfl | rfl
   ·simp only [preS]
    go_wp2_with fail
    refine put_eq (u := .int .i64 m.x0) rfl ?_
    go_wp2_with fail
    go_round
    case measure => first | (simp [intOf]; done) | (simp [intOf]; omega)
    case rel => exact ⟨1, rfl, by simp [preS], by omega⟩
   ·simp only [preS]
    go_wp2_with fail
    refine put_eq (u := .int .i64 m.x1) rfl ?_
    go_wp2_with fail
    go_round
    case measure => first | (simp [intOf]; done) | (simp [intOf]; omega)
    case rel => exact ⟨2, rfl, by simp [preS], by omega⟩
   ·simp only [preS]
    go_wp2_with fail
    refine put_eq (u := .int .i64 m.x2) rfl ?_
    go_wp2_with fail
    go_round
    case measure => first | (simp [intOf]; done) | (simp [intOf]; omega)
    case rel => exact ⟨3, rfl, by simp [preS], by omega⟩
   ·simp only [preS]
    go_wp2_with fail
    refine put_eq (u := .int .i64 m.x3) rfl ?_
    go_wp2_with fail
    go_round
    case measure => first | (simp [intOf]; done) | (simp [intOf]; omega)
    case rel => exact ⟨4, rfl, by simp [preS], by omega⟩
   ·simp only [preS]
    go_wp2_with fail
    go_ret
    exact ⟨retInt HD.out.symm, HB.out⟩
theorem cmp_Or2 (a b : Int) (A : Option Addr) (c : Nat) (w : World) (h : RdI w .i64 A [a, b]) :
    Calls Tryz.prog 196 #[.slice A 2 c] w fun e w' => e = .returned (.int .i64 (if a ≠ 0 then a else b)) ∧ w = w' := by
 obtain ⟨ad, x, rfl, _, hx, hc0⟩ := h.get (i := 0) (by simp)
 obtain ⟨ad', y, hA, _, hy, hc1⟩ := h.get (i := 1) (by simp)
 injection hA with hA
 subst hA
 have h0 : w.cell? ad = some (.int .i64 x) := by simpa [Addr.add] using hc0
 have h1 : w.cell? ⟨ad.block, ad.off + 1, none⟩ = some (.int .i64 y) := by simpa [Addr.add] using hc1
 obtain rfl : a = x := hx.out
 obtain rfl : b = y := hy.out
 clear hx hy
 by_cases ha : a = 0
 ·subst ha
  by_cases hb : b = 0
  ·subst hb
   go_enter Tryz.func196, Tryz.ntmps196
   go_wp2_with fail
   go_loop [8] (fun v => ∃ i : Nat, v = .int .i64 i ∧ i ≤ 2) (fun v => 2 - (intOf v).toNat)
   case atStart => exact ⟨0, rfl, by omega⟩
   case round =>
    obtain ⟨i, rfl, hi⟩ := hrel
    rcases (show i = 0 ∨ i = 1 ∨ i = 2 by omega) with rfl | rfl | rfl
    ·go_wp2_with fail
     go_round
     case measure => first | (simp [intOf]; done) | (simp [intOf]; omega)
     case rel => exact ⟨1, rfl, by omega⟩
    ·go_wp2_with fail
     go_round
     case measure => first | (simp [intOf]; done) | (simp [intOf]; omega)
     case rel => exact ⟨2, rfl, by omega⟩
    ·go_wp2_with fail
     go_ret
     exact ⟨rfl, rfl⟩
  ·have hb2 : (b != 0) = true := by rw [bne_iff_ne]; exact hb
   go_enter Tryz.func196, Tryz.ntmps196
   go_wp2_with fail
   go_loop [8] (fun v => ∃ i : Nat, v = .int .i64 i ∧ i ≤ 1) (fun v => 2 - (intOf v).toNat)
   case atStart => exact ⟨0, rfl, by omega⟩
   case round =>
    obtain ⟨i, rfl, hi⟩ := hrel
    rcases (show i = 0 ∨ i = 1 by omega) with rfl | rfl
    ·go_wp2_with fail
     go_round
     case measure => first | (simp [intOf]; done) | (simp [intOf]; omega)
     case rel => exact ⟨1, rfl, by omega⟩
    ·go_wp2_with fail
     go_ret
     exact ⟨rfl, rfl⟩
 ·have ha2 : (a != 0) = true := by rw [bne_iff_ne]; exact ha
  go_enter Tryz.func196, Tryz.ntmps196
  go_wp2_with fail
  go_loop [8] (fun v => ∃ i : Nat, v = .int .i64 i ∧ i = 0) (fun v => 2 - (intOf v).toNat)
  case atStart => exact ⟨0, rfl, by omega⟩
  case round =>
   obtain ⟨i, rfl, rfl⟩ := hrel
   go_wp2_with fail
   go_ret
   exact ⟨rfl, rfl⟩
structure Bm2 (S g1 g2 : Nat) (w0 w : World) (a b : MonD) : Prop where
 below : Blw S w0 w
 s1 : S ≤ g1
 s2 : S ≤ g2
 n12 : g1 ≠ g2
 k1 : Bk w g1 66 #[.int .i64 a.x0, .int .i64 a.x1, .int .i64 a.x2, .int .i64 a.x3]
 k2 : Bk w g2 66 #[.int .i64 b.x0, .int .i64 b.x1, .int .i64 b.x2, .int .i64 b.x3]
section
variable {S g1 g2 : Nat} {w0 w w' : World} {a b : MonD}
theorem Bm2.up (h : Bm2 S g1 g2 w0 w a b) (hb : Blw w.heap.size w w') : Bm2 S g1 g2 w0 w' a b :=
 ⟨h.below.trans (hb.mono (Nat.le_trans h.s1 (Nat.le_of_lt h.k1.lt))), h.s1, h.s2, h.n12, h.k1.up hb.lo, h.k2.up hb.lo⟩
theorem Bm2.dn (h : Bm2 S g1 g2 w0 w a b) (n : Nat) : Bm2 S g1 g2 w0 (w.drewN n) a b := ⟨Blw.dn h.below n, h.s1, h.s2, h.n12, h.k1, h.k2⟩
theorem Bm2.mk2 (w : World) (a b : MonD) : Bm2 w.heap.size w.heap.size (w.heap.size + 1) w ((w.alloc (Obj.cells #[.int .i64 a.x0, .int .i64 a.x1, .int .i64 a.x2, .int .i64 a.x3] 66)).alloc (Obj.cells #[.int .i64 b.x0, .int .i64 b.x1, .int .i64 b.x2, .int .i64 b.x3] 66)) a b := by
 refine ⟨((Blw.refl _ _).alloc (Nat.le_refl _) _).alloc (by simp) _, Nat.le_refl _, by omega, by omega, (Bk.new_ _ _ _).al _, ?_⟩
 have := Bk.new_ (w.alloc (Obj.cells #[.int .i64 a.x0, .int .i64 a.x1, .int .i64 a.x2, .int .i64 a.x3] 66)) 66 #[.int .i64 b.x0, .int .i64 b.x1, .int .i64 b.x2, .int .i64 b.x3]
 simpa using this
theorem Bk.mono {g : Nat} {t : TypeId} (h : Bk w g t #[.int .i64 a.x0, .int .i64 a.x1, .int .i64 a.x2, .int .i64 a.x3]) : RdI w .i64 (some ⟨g, 0, none⟩) a.l := by
 refine ⟨by simp [ints], fun _ => ⟨_, rfl, h.lt, fun j u hu => ?_⟩⟩
 rw [add_win, Nat.zero_add, h.cell]
 have : (#[Value.int .i64 a.x0, .int .i64 a.x1, .int .i64 a.x2, .int .i64 a.x3] : Array Value) = (ints .i64 a.l).toArray := rfl
 rw [this]
 simpa using hu
theorem Bk.four {g : Nat} {t : TypeId} {v0 v1 v2 v3 : Value} (h : Bk w g t #[v0, v1, v2, v3]) : w.cell? ⟨g, 0, none⟩ = some v0 ∧ w.cell? ⟨g, 1, none⟩ = some v1 ∧ w.cell? ⟨g, 2, none⟩ = some v2 ∧ w.cell? ⟨g, 3, none⟩ = some v3 := by
 refine ⟨?_, ?_, ?_, ?_⟩ <;> (rw [h.cell]; rfl)
end
theorem Cmp_lex (a b : MonD) (w : World) :
    Calls Tryz.prog 192 #[.agg #[.int .i64 a.x0, .int .i64 a.x1, .int .i64 a.x2, .int .i64 a.x3], .agg #[.int .i64 b.x0, .int .i64 b.x1, .int .i64 b.x2, .int .i64 b.x3]] w fun e w' => e = .returned (.int .i64 (lexC a.l b.l)) ∧ Blw w.heap.size w w' := by
 go_enter Tryz.func192, Tryz.ntmps192
 go_upto_region 1 with (fail)
 refine wp_gen (fun W => Bm2 w.heap.size w.heap.size (w.heap.size + 1) w W a b) (Bm2.mk2 w a b) ?_
 intro W BX
 generalize w.heap.size + 1 = g2 at BX ⊢
 have r1 := Hd.mk BX.out.k1.mono
 have r2 := Hd.mk BX.out.k2.mono
 have CC := Hd.mk (slices_Compare (some ⟨w.heap.size, 0, none⟩) (some ⟨g2, 0, none⟩) 4 4 a.l b.l W.drew r1.out (Nat.le_refl _) r2.out (Nat.le_refl _) rfl (by simp [MonD.l]))
 go_region_with (go_at_call 193; refine CC.out.mono ?_; rintro e w' ⟨rfl, rfl⟩)
 all_goals (
  go_wp2_with fail
  go_ret
  exact ⟨rfl, (BX.out.dn 1).below⟩)
def rev (m : MonD) : MonD := ⟨m.x3, m.x2, m.x1, m.x0⟩
theorem Bk.setFour {w : World} {g : Nat} {t : TypeId} {a0 a1 a2 a3 : Value} (h : Bk w g t #[a0, a1, a2, a3]) (v0 v1 v2 v3 : Value) : Bk (w.setCells g 0 [v0, v1, v2, v3]) g t #[v0, v1, v2, v3] :=
 (((h.set_ 0 v0).set_ 1 v1).set_ 2 v2).set_ 3 v3
theorem Cmp_rev (a b : MonD) (gt : Nat) (w : World) (ht : w.cell? ⟨gt, 0, none⟩ = some (.func (.func 192) #[] #[])) :
    Calls Tryz.prog 199 #[.agg #[.int .i64 a.x0, .int .i64 a.x1, .int .i64 a.x2, .int .i64 a.x3], .agg #[.int .i64 b.x0, .int .i64 b.x1, .int .i64 b.x2, .int .i64 b.x3], .pointer (some ⟨gt, 0, none⟩)] w fun e w' => e = .returned (.int .i64 (lexC (rev b).l (rev a).l)) ∧ Blw w.heap.size w w' := by
 have hgt := World.block_lt_of_cell? w _ ht
 go_enter Tryz.func199, Tryz.ntmps199
 go_upto_region 1 with (fail)
 refine wp_gen (fun W => Bm2 w.heap.size w.heap.size (w.heap.size + 1) w W a b) (Bm2.mk2 w a b) ?_
 intro W BX
 generalize w.heap.size + 1 = g2 at BX ⊢
 have C1 := Hd.mk (Tryz.slices_Reverse_int_cells w.heap.size 0 4 4 a.l W (Nat.le_refl _) (by decide) (fun j hj => by
  obtain ⟨c0, c1, c2, c3⟩ := BX.out.k1.four
  match j, hj with
  | 0, _ => exact c0
  | 1, _ => exact c1
  | 2, _ => exact c2
  | 3, _ => exact c3) (fun j _ => BX.out.k1.froz _))
 go_wp2_with fail
 refine C1.out.mono ?_
 rintro e w2 ⟨rfl, q, rfl⟩
 have k1 : Hd (Bk ((W.drewN q).setCells w.heap.size 0 ((a.l.take 4).reverse.map (Value.int .i64))) w.heap.size 66 #[.int .i64 (rev a).x0, .int .i64 (rev a).x1, .int .i64 (rev a).x2, .int .i64 (rev a).x3]) := ⟨(BX.out.dn q).k1.setFour _ _ _ _⟩
 have BX2 : Hd (Bm2 w.heap.size w.heap.size g2 w ((W.drewN q).setCells w.heap.size 0 ((a.l.take 4).reverse.map (Value.int .i64))) (rev a) b) :=
  ⟨((((BX.out.dn q).below.setCell BX.out.s1 _).setCell BX.out.s1 _).setCell BX.out.s1 _).setCell BX.out.s1 _, BX.out.s1, BX.out.s2, BX.out.n12, k1.out, ((((BX.out.dn q).k2.far BX.out.n12.symm _).far BX.out.n12.symm _).far BX.out.n12.symm _).far BX.out.n12.symm _⟩
 generalize (W.drewN q).setCells w.heap.size 0 ((a.l.take 4).reverse.map (Value.int .i64)) = W2 at k1 BX2 ⊢
 have C2 := Hd.mk (Tryz.slices_Reverse_int_cells g2 0 4 4 b.l W2 (Nat.le_refl _) (by decide) (fun j hj => by
  obtain ⟨c0, c1, c2, c3⟩ := BX2.out.k2.four
  match j, hj with
  | 0, _ => exact c0
  | 1, _ => exact c1
  | 2, _ => exact c2
  | 3, _ => exact c3) (fun j _ => BX2.out.k2.froz _))
 go_wp2_with fail
 refine C2.out.mono ?_
 rintro e w2 ⟨rfl, q2, rfl⟩
 have BX3 : Hd (Bm2 w.heap.size w.heap.size g2 w ((W2.drewN q2).setCells g2 0 ((b.l.take 4).reverse.map (Value.int .i64))) (rev a) (rev b)) :=
  ⟨((((BX2.out.dn q2).below.setCell BX2.out.s2 _).setCell BX2.out.s2 _).setCell BX2.out.s2 _).setCell BX2.out.s2 _, BX2.out.s1, BX2.out.s2, BX2.out.n12, ((((BX2.out.dn q2).k1.far BX2.out.n12 _).far BX2.out.n12 _).far BX2.out.n12 _).far BX2.out.n12 _, (BX2.out.dn q2).k2.setFour _ _ _ _⟩
 generalize (W2.drewN q2).setCells g2 0 ((b.l.take 4).reverse.map (Value.int .i64)) = W3 at BX3 ⊢
 obtain ⟨c0, c1, c2, c3⟩ := BX3.out.k1.four
 obtain ⟨d0, d1, d2, d3⟩ := BX3.out.k2.four
 have ht3 := (BX3.out.below.cell hgt).trans ht
 have CL := Hd.mk (Cmp_lex (rev b) (rev a) W3)
 go_wp2_with fail
 refine CL.out.mono ?_
 rintro e w4 ⟨rfl, hb⟩
 have BX4 := Hd.mk (BX3.out.up hb)
 clear hb
 go_wp2_with fail
 go_ret
 exact ⟨rfl, BX4.out.below⟩
theorem lit2_rd (w : World) (a b : Int) (t : TypeId) : RdI (w.alloc (.cells #[.int .i64 a, .int .i64 b] t)) .i64 (some ⟨w.heap.size, 0, none⟩) [a, b] := by
 have := Rd.new_ w #[.int .i64 a, .int .i64 b] t 2 1 rfl
 unfold RdI
 rw [show (w.alloc (.cells #[.int .i64 a, .int .i64 b] t)).heap.size = w.heap.size + 1 by simp]
 exact this
def orI (a b : Int) : Int := if a ≠ 0 then a else b
theorem cmp_OrI (a b : Int) (A : Option Addr) (c : Nat) (w : World) (h : RdI w .i64 A [a, b]) :
    Calls Tryz.prog 196 #[.slice A 2 c] w fun e w' => e = .returned (.int .i64 (orI a b)) ∧ w = w' := cmp_Or2 a b A c w h
theorem al_cell {w : World} {a : Addr} {v : Value} (h : w.cell? a = some v) (o : Obj) : (w.alloc o).cell? a = some v := cellUp h ((Blw.refl _ _).alloc (Nat.le_refl _) _)
theorem graded_lex (a b : MonD) (gt : Nat) (w : World) (ht : w.cell? ⟨gt, 0, none⟩ = some (.func (.func 192) #[] #[])) :
    Calls Tryz.prog 195 #[.agg #[.int .i64 a.x0, .int .i64 a.x1, .int .i64 a.x2, .int .i64 a.x3], .agg #[.int .i64 b.x0, .int .i64 b.x1, .int .i64 b.x2, .int .i64 b.x3], .pointer (some ⟨gt, 0, none⟩)] w fun e w' => e = .returned (.int .i64 (orI (cmpI (monDeg a) (monDeg b)) (lexC a.l b.l))) ∧ Blw w.heap.size w w' := by
 have hgt := World.block_lt_of_cell? w _ ht
 skip
 obtain ⟨R, hR⟩ : ∃ R, lexC a.l b.l = R := ⟨_, rfl⟩
 obtain ⟨da, hda⟩ : ∃ d, monDeg a = d := ⟨_, rfl⟩
 obtain ⟨db, hdb⟩ : ∃ d, monDeg b = d := ⟨_, rfl⟩
 rw [hR, hda, hdb]
 have D1 := Hd.mk (fun W => mono_Degree a W)
 have D2 := Hd.mk (fun W => mono_Degree b W)
 rw [hda] at D1
 rw [hdb] at D2
 have CT := Hd.mk (fun W => Cmp_lex a b W)
 rw [hR] at CT
 have CC := Hd.mk (fun W => cmp_Compare da db W)
 obtain ⟨k, hk⟩ : ∃ k, cmpI da db = k := ⟨_, rfl⟩
 rw [hk] at CC ⊢
 have CO := Hd.mk (fun W => cmp_OrI k R (some ⟨W.heap.size, 0, none⟩) 2 _ (lit2_rd W k R 3))
 obtain ⟨O, hO⟩ : ∃ O, orI k R = O := ⟨_, rfl⟩
 rw [hO] at CO ⊢
 clear hO
 clear hR hda hdb hk
 go_enter Tryz.func195, Tryz.ntmps195
 go_upto_region 1 with (fail)
 refine wp_gen (fun W => Bm2 w.heap.size w.heap.size (w.heap.size + 1) w W a b) (Bm2.mk2 w a b) ?_
 intro W BX
 generalize w.heap.size + 1 = g2 at BX ⊢
 obtain ⟨c0, c1, c2, c3⟩ := BX.out.k1.four
 obtain ⟨d0, d1, d2, d3⟩ := BX.out.k2.four
 have ht2 := (BX.out.below.cell hgt).trans ht
 skip
 go_region_held3 (fun w' => Hd (Blw w.heap.size w w') ∧ w'.cell? ⟨w.heap.size, 0, none⟩ = some (.int .i64 a.x0) ∧ w'.cell? ⟨w.heap.size, 1, none⟩ = some (.int .i64 a.x1) ∧ w'.cell? ⟨w.heap.size, 2, none⟩ = some (.int .i64 a.x2) ∧ w'.cell? ⟨w.heap.size, 3, none⟩ = some (.int .i64 a.x3) ∧ w'.cell? ⟨g2, 0, none⟩ = some (.int .i64 b.x0) ∧ w'.cell? ⟨g2, 1, none⟩ = some (.int .i64 b.x1) ∧ w'.cell? ⟨g2, 2, none⟩ = some (.int .i64 b.x2) ∧ w'.cell? ⟨g2, 3, none⟩ = some (.int .i64 b.x3) ∧ w'.cell? ⟨gt, 0, none⟩ = some (.func (.func 192) #[] #[]))
  (first
   | exact hS
   | exact ⟨⟨BX.out.below⟩, c0, c1, c2, c3, d0, d1, d2, d3, ht2⟩
   | exact ⟨⟨(BX.out.dn 1).below⟩, c0, c1, c2, c3, d0, d1, d2, d3, ht2⟩
   | exact ⟨⟨hS.1.out.alloc hS.1.out.size _⟩, al_cell hS.2.1 _, al_cell hS.2.2.1 _, al_cell hS.2.2.2.1 _, al_cell hS.2.2.2.2.1 _, al_cell hS.2.2.2.2.2.1 _, al_cell hS.2.2.2.2.2.2.1 _, al_cell hS.2.2.2.2.2.2.2.1 _, al_cell hS.2.2.2.2.2.2.2.2.1 _, al_cell hS.2.2.2.2.2.2.2.2.2 _⟩)
  (first
   | (go_at_call 198; obtain ⟨hB, q0, q1, q2, q3, q4, q5, q6, q7, q8⟩ := ‹Hd (Blw w.heap.size w _) ∧ _›; with_reducible refine (D1.out _).mono ?_; rintro e w4 ⟨rfl, hb⟩
      have hS := And.intro (Hd.mk (hB.out.trans (hb.mono hB.out.size))) (And.intro (cellUp q0 hb) (And.intro (cellUp q1 hb) (And.intro (cellUp q2 hb) (And.intro (cellUp q3 hb) (And.intro (cellUp q4 hb) (And.intro (cellUp q5 hb) (And.intro (cellUp q6 hb) (And.intro (cellUp q7 hb) (cellUp q8 hb))))))))))
   | (go_at_call 198; obtain ⟨hB, q0, q1, q2, q3, q4, q5, q6, q7, q8⟩ := ‹Hd (Blw w.heap.size w _) ∧ _›; with_reducible refine (D2.out _).mono ?_; rintro e w5 ⟨rfl, hb⟩
      have hS := And.intro (Hd.mk (hB.out.trans (hb.mono hB.out.size))) (And.intro (cellUp q0 hb) (And.intro (cellUp q1 hb) (And.intro (cellUp q2 hb) (And.intro (cellUp q3 hb) (And.intro (cellUp q4 hb) (And.intro (cellUp q5 hb) (And.intro (cellUp q6 hb) (And.intro (cellUp q7 hb) (cellUp q8 hb))))))))))
   | (go_at_call 197; obtain ⟨hB, q0, q1, q2, q3, q4, q5, q6, q7, q8⟩ := ‹Hd (Blw w.heap.size w _) ∧ _›; with_reducible refine (CC.out _).mono ?_; rintro e w6 ⟨rfl, rfl⟩
      have hS := And.intro hB (And.intro q0 (And.intro q1 (And.intro q2 (And.intro q3 (And.intro q4 (And.intro q5 (And.intro q6 (And.intro q7 (q8))))))))))
   | (go_at_call 192; obtain ⟨hB, q0, q1, q2, q3, q4, q5, q6, q7, q8⟩ := ‹Hd (Blw w.heap.size w _) ∧ _›; with_reducible refine (CT.out _ ).mono ?_; rintro e w7 ⟨rfl, hb⟩
      have hS := And.intro (Hd.mk (hB.out.trans (hb.mono hB.out.size))) (And.intro (cellUp q0 hb) (And.intro (cellUp q1 hb) (And.intro (cellUp q2 hb) (And.intro (cellUp q3 hb) (And.intro (cellUp q4 hb) (And.intro (cellUp q5 hb) (And.intro (cellUp q6 hb) (And.intro (cellUp q7 hb) (cellUp q8 hb))))))))))
   | (go_at_call 196; obtain ⟨hB, q0, q1, q2, q3, q4, q5, q6, q7, q8⟩ := ‹Hd (Blw w.heap.size w _) ∧ _›; with_reducible refine (CO.out _).mono ?_; rintro e w8 ⟨rfl, rfl⟩
      have hS := And.intro hB (And.intro q0 (And.intro q1 (And.intro q2 (And.intro q3 (And.intro q4 (And.intro q5 (And.intro q6 (And.intro q7 (q8)))))))))))
 all_goals (
  go_wp2_with fail
  go_ret
  exact ⟨rfl, hS.1.out⟩)
theorem graded_rev (a b : MonD) (gt gl : Nat) (w : World) (ht : w.cell? ⟨gt, 0, none⟩ = some (.func (.func 199) #[] #[.pointer (some ⟨gl, 0, none⟩)])) (hl : w.cell? ⟨gl, 0, none⟩ = some (.func (.func 192) #[] #[])) :
    Calls Tryz.prog 195 #[.agg #[.int .i64 a.x0, .int .i64 a.x1, .int .i64 a.x2, .int .i64 a.x3], .agg #[.int .i64 b.x0, .int .i64 b.x1, .int .i64 b.x2, .int .i64 b.x3], .pointer (some ⟨gt, 0, none⟩)] w fun e w' => e = .returned (.int .i64 (orI (cmpI (monDeg a) (monDeg b)) (lexC (rev b).l (rev a).l))) ∧ Blw w.heap.size w w' := by
 have hgt := World.block_lt_of_cell? w _ ht
 have hgl := World.block_lt_of_cell? w _ hl
 obtain ⟨R, hR⟩ : ∃ R, lexC (rev b).l (rev a).l = R := ⟨_, rfl⟩
 obtain ⟨da, hda⟩ : ∃ d, monDeg a = d := ⟨_, rfl⟩
 obtain ⟨db, hdb⟩ : ∃ d, monDeg b = d := ⟨_, rfl⟩
 rw [hR, hda, hdb]
 have D1 := Hd.mk (fun W => mono_Degree a W)
 have D2 := Hd.mk (fun W => mono_Degree b W)
 rw [hda] at D1
 rw [hdb] at D2
 have CT := Hd.mk (fun W hq => Cmp_rev a b gl W hq)
 rw [hR] at CT
 have CC := Hd.mk (fun W => cmp_Compare da db W)
 obtain ⟨k, hk⟩ : ∃ k, cmpI da db = k := ⟨_, rfl⟩
 rw [hk] at CC ⊢
 have CO := Hd.mk (fun W => cmp_OrI k R (some ⟨W.heap.size, 0, none⟩) 2 _ (lit2_rd W k R 3))
 obtain ⟨O, hO⟩ : ∃ O, orI k R = O := ⟨_, rfl⟩
 rw [hO] at CO ⊢
 clear hO
 clear hR hda hdb hk
 go_enter Tryz.func195, Tryz.ntmps195
 go_upto_region 1 with (fail)
 refine wp_gen (fun W => Bm2 w.heap.size w.heap.size (w.heap.size + 1) w W a b) (Bm2.mk2 w a b) ?_
 intro W BX
 generalize w.heap.size + 1 = g2 at BX ⊢
 obtain ⟨c0, c1, c2, c3⟩ := BX.out.k1.four
 obtain ⟨d0, d1, d2, d3⟩ := BX.out.k2.four
 have ht2 := (BX.out.below.cell hgt).trans ht
 have hl2 := (BX.out.below.cell hgl).trans hl
 go_region_held3 (fun w' => Hd (Blw w.heap.size w w') ∧ w'.cell? ⟨w.heap.size, 0, none⟩ = some (.int .i64 a.x0) ∧ w'.cell? ⟨w.heap.size, 1, none⟩ = some (.int .i64 a.x1) ∧ w'.cell? ⟨w.heap.size, 2, none⟩ = some (.int .i64 a.x2) ∧ w'.cell? ⟨w.heap.size, 3, none⟩ = some (.int .i64 a.x3) ∧ w'.cell? ⟨g2, 0, none⟩ = some (.int .i64 b.x0) ∧ w'.cell? ⟨g2, 1, none⟩ = some (.int .i64 b.x1) ∧ w'.cell? ⟨g2, 2, none⟩ = some (.int .i64 b.x2) ∧ w'.cell? ⟨g2, 3, none⟩ = some (.int .i64 b.x3) ∧ w'.cell? ⟨gt, 0, none⟩ = some (.func (.func 199) #[] #[.pointer (some ⟨gl, 0, none⟩)]) ∧ w'.cell? ⟨gl, 0, none⟩ = some (.func (.func 192) #[] #[]))
  (first
   | exact hS
   | exact ⟨⟨BX.out.below⟩, c0, c1, c2, c3, d0, d1, d2, d3, ht2, hl2⟩
   | exact ⟨⟨(BX.out.dn 1).below⟩, c0, c1, c2, c3, d0, d1, d2, d3, ht2, hl2⟩
   | exact ⟨⟨hS.1.out.alloc hS.1.out.size _⟩, al_cell hS.2.1 _, al_cell hS.2.2.1 _, al_cell hS.2.2.2.1 _, al_cell hS.2.2.2.2.1 _, al_cell hS.2.2.2.2.2.1 _, al_cell hS.2.2.2.2.2.2.1 _, al_cell hS.2.2.2.2.2.2.2.1 _, al_cell hS.2.2.2.2.2.2.2.2.1 _, al_cell hS.2.2.2.2.2.2.2.2.2.1 _, al_cell hS.2.2.2.2.2.2.2.2.2.2 _⟩)
  (first
   | (go_at_call 198; obtain ⟨hB, q0, q1, q2, q3, q4, q5, q6, q7, q8, q9⟩ := ‹Hd (Blw w.heap.size w _) ∧ _›; with_reducible refine (D1.out _).mono ?_; rintro e w4 ⟨rfl, hb⟩
      have hS := And.intro (Hd.mk (hB.out.trans (hb.mono hB.out.size))) (And.intro (cellUp q0 hb) (And.intro (cellUp q1 hb) (And.intro (cellUp q2 hb) (And.intro (cellUp q3 hb) (And.intro (cellUp q4 hb) (And.intro (cellUp q5 hb) (And.intro (cellUp q6 hb) (And.intro (cellUp q7 hb) (And.intro (cellUp q8 hb) (cellUp q9 hb)))))))))))
   | (go_at_call 198; obtain ⟨hB, q0, q1, q2, q3, q4, q5, q6, q7, q8, q9⟩ := ‹Hd (Blw w.heap.size w _) ∧ _›; with_reducible refine (D2.out _).mono ?_; rintro e w5 ⟨rfl, hb⟩
      have hS := And.intro (Hd.mk (hB.out.trans (hb.mono hB.out.size))) (And.intro (cellUp q0 hb) (And.intro (cellUp q1 hb) (And.intro (cellUp q2 hb) (And.intro (cellUp q3 hb) (And.intro (cellUp q4 hb) (And.intro (cellUp q5 hb) (And.intro (cellUp q6 hb) (And.intro (cellUp q7 hb) (And.intro (cellUp q8 hb) (cellUp q9 hb)))))))))))
   | (go_at_call 197; obtain ⟨hB, q0, q1, q2, q3, q4, q5, q6, q7, q8, q9⟩ := ‹Hd (Blw w.heap.size w _) ∧ _›; with_reducible refine (CC.out _).mono ?_; rintro e w6 ⟨rfl, rfl⟩
      have hS := And.intro hB (And.intro q0 (And.intro q1 (And.intro q2 (And.intro q3 (And.intro q4 (And.intro q5 (And.intro q6 (And.intro q7 (And.intro q8 (q9)))))))))))
   | (go_at_call 199; obtain ⟨hB, q0, q1, q2, q3, q4, q5, q6, q7, q8, q9⟩ := ‹Hd (Blw w.heap.size w _) ∧ _›; with_reducible refine (CT.out _ q9).mono ?_; rintro e w7 ⟨rfl, hb⟩
      have hS := And.intro (Hd.mk (hB.out.trans (hb.mono hB.out.size))) (And.intro (cellUp q0 hb) (And.intro (cellUp q1 hb) (And.intro (cellUp q2 hb) (And.intro (cellUp q3 hb) (And.intro (cellUp q4 hb) (And.intro (cellUp q5 hb) (And.intro (cellUp q6 hb) (And.intro (cellUp q7 hb) (And.intro (cellUp q8 hb) (cellUp q9 hb)))))))))))
   | (go_at_call 196; obtain ⟨hB, q0, q1, q2, q3, q4, q5, q6, q7, q8, q9⟩ := ‹Hd (Blw w.heap.size w _) ∧ _›; with_reducible refine (CO.out _).mono ?_; rintro e w8 ⟨rfl, rfl⟩
      have hS := And.intro hB (And.intro q0 (And.intro q1 (And.intro q2 (And.intro q3 (And.intro q4 (And.intro q5 (And.intro q6 (And.intro q7 (And.intro q8 (q9))))))))))))
 all_goals (
  go_wp2_with fail
  go_ret
  exact ⟨rfl, hS.1.out⟩)
end Go.Proofs.YtgjkgkgieeoalaaGreat
