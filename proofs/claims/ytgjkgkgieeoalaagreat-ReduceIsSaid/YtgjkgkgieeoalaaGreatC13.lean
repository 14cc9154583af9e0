/- Parts of the proof, joined: each theorem says what it shows. -/
import Derived.Test.YtgjkgkgieeoalaaGreatC12
import Derived.Test.YtgjkgkgieeoalaaGreatC08
import Derived.Lib.AppendZeros
import Derived.Laws.CopyRow
import Derived.Laws.CopyOwn
import Derived.Deep.RegionLaw
import Derived.Deep.RegionHeld3
import Derived.WalkMore
set_option linter.unusedVariables false
set_option linter.unusedSimpArgs false
set_option maxHeartbeats 24000000
set_option maxRecDepth 100000
namespace Go.Proofs.YtgjkgkgieeoalaaGreat
open Go.RowKit
theorem rquot_Div_one (A B : Option Addr) (c d : Nat) (x y : Int) (w : World) (h : RdI w .u64 A [x]) (hn : 1 ≤ c) (h' : RdI w .u64 B [y]) (hn' : 1 ≤ d) (hu : U64 [x]) (hu' : U64 [y])
    (hm : natMay [x] = true) (hm' : natMay [y] = true) :
    Calls Tryz.prog 219 #[.slice A 1 c, .slice B 1 d] w fun e w' => ∃ v u, e = .returned (.tuple #[v, u, .int .i64 0]) ∧ OwnI w' w.heap.size 112 .u64 v (limbs (x.toNat / y.toNat)) ∧
     OwnI w' w.heap.size 112 .u64 u (limbs (x.toNat % y.toNat)) ∧ Below w.heap.size w w' := by
 have M1 := Hd.mk (rnat_May A c [x] w h hn (by simp))
 have M2 := Hd.mk (rnat_May B d [y] w h' hn' (by simp))
 rw [hm] at M1
 rw [hm'] at M2
 obtain ⟨ad, x', rfl, _, hx, hcx⟩ := RdI.get (i := 0) h (by simp)
 obtain ⟨bd, y', rfl, _, hy, hcy⟩ := RdI.get (i := 0) h' (by simp)
 have e1 : x' = x := by have := hx.out; simpa using this.symm
 have e2 : y' = y := by have := hy.out; simpa using this.symm
 subst e1 e2
 have ea : ad.add 0 = ad := by simp [Addr.add]
 have eb : bd.add 0 = bd := by simp [Addr.add]
 have hca : w.cell? ad = some (.int .u64 x') := by rw [← ea]; exact hcx
 have hcb : w.cell? bd = some (.int .u64 y') := by rw [← eb]; exact hcy
 clear ea eb hcx hcy
 obtain ⟨hx0, hx1⟩ := hu x' (by simp)
 obtain ⟨hy0, hy1⟩ := hu' y' (by simp)
 have hyp : y' ≠ 0 := by
  intro e; subst e
  revert hm'; decide
 obtain ⟨Q, hQ⟩ : ∃ Q, IntKind.u64.wrap (x'.tdiv y') = Q := ⟨_, rfl⟩
 obtain ⟨R, hR⟩ : ∃ R, x'.tmod y' = R := ⟨_, rfl⟩
 obtain ⟨a, ha⟩ : ∃ a, x'.toNat = a := ⟨_, rfl⟩
 obtain ⟨b, hb⟩ : ∃ b, y'.toNat = b := ⟨_, rfl⟩
 have xa : x' = (a : Int) := by omega
 have yb : y' = (b : Int) := by omega
 obtain ⟨p, hp⟩ : ∃ p, a / b = p := ⟨_, rfl⟩
 obtain ⟨q, hq⟩ : ∃ q, a % b = q := ⟨_, rfl⟩
 have lQ : p ≤ a := hp ▸ Nat.div_le_self _ _
 have lR : q ≤ a := hq ▸ Nat.mod_le _ _
 have eQ : Q = (p : Int) := by
  rw [← hQ, Int.tdiv_eq_ediv_of_nonneg hx0, xa, yb, ← Int.natCast_ediv, hp]
  exact IntWalk.u64_in _ (by omega)
 have eR : R = (q : Int) := by
  rw [← hR, Int.tmod_eq_emod_of_nonneg hx0, xa, yb, ← Int.natCast_emod, hq]
 have C1 := Hd.mk (fun W (hb : Hd (Below w.heap.size w W)) => rnat_Of Q (by omega) (by omega) W)
 have C2 := Hd.mk (fun W (hb : Hd (Below w.heap.size w W)) => rnat_Of R (by omega) (by omega) W)
 rw [show Q.toNat = p by omega, ← hp] at C1
 rw [show R.toNat = q by omega, ← hq] at C2
 rw [ha, hb]
 clear xa yb lQ lR eQ eR hp hq ha hb
 have y0 : (y' == 0) = false := by rw [beq_eq_false_iff_ne]; exact hyp
 have hb0 : Hd (Below w.heap.size w w) := ⟨.refl _ _⟩
 clear h h' hu hu' hm hm' hx hy hx0 hx1 hy0 hy1
 go_enter Tryz.func219, Tryz.ntmps219
 go_wp2_with fail
 refine M1.out.mono ?_
 rintro e w' ⟨rfl, rfl⟩
 go_wp2_with fail
 refine M2.out.mono ?_
 rintro e w' ⟨rfl, rfl⟩
 go_wp2_with fail
 go_region_held3 (fun w' => Hd (Below w.heap.size w w') ∧ w'.cell? ad = some (.int .u64 x') ∧ w'.cell? bd = some (.int .u64 y'))
  (first
   | exact hS
   | exact ⟨hb0, hca, hcb⟩
   | exact ⟨⟨hb0.out.drew⟩, hca, hcb⟩)
  (first
   | (go_at_call 120; obtain ⟨hB, q1, q2⟩ := ‹Hd (Below w.heap.size w _) ∧ _›; with_reducible refine (C1.out _ hB).mono ?_; rintro e w' ⟨x, rfl, ho, hb⟩
      have hS := And.intro (Hd.mk (hB.out.trans (hb.mono hB.out.size))) (And.intro (cell_up q1 hb) (cell_up q2 hb))
      have HX := Hd.mk (ho.low hB.out.size); clear ho)
   | (go_at_call 120; obtain ⟨hB, q1, q2⟩ := ‹Hd (Below w.heap.size w _) ∧ _›; with_reducible refine (C2.out _ hB).mono ?_; rintro e w2 ⟨y, rfl, ho, hb⟩
      have hS := And.intro (Hd.mk (hB.out.trans (hb.mono hB.out.size))) (And.intro (cell_up q1 hb) (cell_up q2 hb))
      have HX2 := Hd.mk (HX.out.below hb)
      have HY := Hd.mk (ho.low hB.out.size)
      clear ho))
 go_wp2_with fail
 go_ret3
 exact ⟨_, _, rfl, HX2.out, HY.out, hS.1.out⟩
theorem natMay_posN {l : List Int} (h : natMay l = true) (hu : U64 l) (hl : 0 < l.length) : 0 < val l := by
 rcases Nat.eq_zero_or_pos (val l) with h0 | h0
 ·have := natMay_limbs h hu
  rw [h0, limbs_zero] at this
  rw [← this] at hl
  cases hl
 ·exact h0
theorem rquot_Div (A B : Option Addr) (c d : Nat) (l m : List Int) (w : World) (h : RdI w .u64 A l) (hn : l.length ≤ c) (h' : RdI w .u64 B m) (hn' : m.length ≤ d) (hu : U64 l) (hu' : U64 m)
    (hm : natMay l = true) (hm' : natMay m = true) (h1 : 0 < m.length) :
    Calls Tryz.prog 219 #[.slice A l.length c, .slice B m.length d] w fun e w' => ∃ v u, e = .returned (.tuple #[v, u, .int .i64 0]) ∧ OwnI w' w.heap.size 112 .u64 v (limbs (val l / val m)) ∧
     OwnI w' w.heap.size 112 .u64 u (limbs (val l % val m)) ∧ Below w.heap.size w w' := by
 by_cases hh : l.length = 1 ∧ m.length = 1
 ·obtain ⟨x, rfl⟩ := List.length_eq_one_iff.1 hh.1
  obtain ⟨y, rfl⟩ := List.length_eq_one_iff.1 hh.2
  have r := rquot_Div_one A B c d x y w h hn h' hn' hu hu' hm hm'
  rw [show x.toNat = val [x] by simp [val], show y.toNat = val [y] by simp [val]] at r
  exact r
 ·exact rquot_Div_main A B c d l m w h hn h' hn' hu hu' hm hm' h1 hh
theorem rquot_Gcd_bad (A B : Option Addr) (c d : Nat) (l m : List Int) (w : World) (h : RdI w .u64 A l) (hn : l.length ≤ c) (h' : RdI w .u64 B m) (hn' : m.length ≤ d) (h9 : l.length ≤ 1000000000) (h9' : m.length ≤ 1000000000)
    (hm : (natMay l && natMay m) = false) :
    Calls Tryz.prog 154 #[.slice A l.length c, .slice B m.length d] w fun e w' => e = .returned (.tuple #[.slice none 0 0, .int .i64 1]) ∧ w = w' := by
 have C1 := Hd.mk (rnat_May A c l w h hn h9)
 have C2 := Hd.mk (rnat_May B d m w h' hn' h9')
 clear h h'
 cases hb : natMay l
 ·rw [hb] at C1
  clear hm hb
  go_enter Tryz.func154, Tryz.ntmps154
  go_wp2_with fail
  refine C1.out.mono ?_
  rintro e w' ⟨rfl, rfl⟩
  go_wp2_with fail
  go_ret2
  exact ⟨rfl, rfl⟩
 ·rw [hb] at C1 hm
  rw [Bool.true_and] at hm
  rw [hm] at C2
  clear hm hb
  go_enter Tryz.func154, Tryz.ntmps154
  go_wp2_with fail
  refine C1.out.mono ?_
  rintro e w' ⟨rfl, rfl⟩
  go_wp2_with fail
  refine C2.out.mono ?_
  rintro e w' ⟨rfl, rfl⟩
  go_wp2_with fail
  go_ret2
  exact ⟨rfl, rfl⟩
theorem rquot_Gcd (A B : Option Addr) (c d : Nat) (l m : List Int) (w : World) (h : RdI w .u64 A l) (hn : l.length ≤ c) (h' : RdI w .u64 B m) (hn' : m.length ≤ d) (hu : U64 l) (hu' : U64 m)
    (hm : natMay l = true) (hm' : natMay m = true) :
    Calls Tryz.prog 154 #[.slice A l.length c, .slice B m.length d] w fun e w' => ∃ A' c' G, e = .returned (.tuple #[.slice A' G.length c', .int .i64 0]) ∧ G = limbs (Nat.gcd (val l) (val m)) ∧ G.length ≤ c' ∧ RdI w' .u64 A' G ∧ Below w.heap.size w w' := by
 have hl8 := natMay_len hm
 have hm8 := natMay_len hm'
 have C1 := Hd.mk (rnat_May A c l w h hn (by omega))
 have C2 := Hd.mk (rnat_May B d m w h' hn' (by omega))
 rw [hm] at C1
 rw [hm'] at C2
 have HL := Hd.mk h
 have HM := Hd.mk h'
 have HU := Hd.mk (And.intro hu (And.intro hu' (And.intro hm hm')))
 have HB0 : Hd (Below w.heap.size w w) := ⟨.refl _ _⟩
 clear h h' hu hu' hm hm'
 go_enter Tryz.func154, Tryz.ntmps154
 go_wp2_with fail
 refine C1.out.mono ?_
 rintro e w' ⟨rfl, rfl⟩
 go_wp2_with fail
 refine C2.out.mono ?_
 rintro e w' ⟨rfl, rfl⟩
 go_wp2_with fail
 go_loopg [0, 1] (val m) (fun k v0 v1 wr => ∃ (x y : List Int) (A1 A2 : Option Addr) (c1 c2 : Nat), v0 = .slice A1 x.length c1 ∧ v1 = .slice A2 y.length c2 ∧ x.length ≤ c1 ∧ y.length ≤ c2 ∧ Hd (k = val y) ∧ Hd (RdI wr .u64 A1 x) ∧
  Hd (RdI wr .u64 A2 y) ∧ Hd (Below w.heap.size w wr) ∧ Hd (U64 x ∧ U64 y ∧ natMay x = true ∧ natMay y = true) ∧ Hd (Nat.gcd (val x) (val y) = Nat.gcd (val l) (val m)))
 case atStart => exact ⟨l, m, A, B, c, d, rfl, rfl, hn, hn', ⟨rfl⟩, HL, HM, HB0, HU, ⟨rfl⟩⟩
 case round =>
  clear HL HM HB0 HU hn hn' hl8 hm8
  obtain ⟨x, y, A1, A2, c1, c2, rfl, rfl, hc1, hc2, hk, ho1, ho2, hb, hu, hg⟩ := hrel
  by_cases hy : 0 < y.length
  ·have hy' : (0 : Int) < y.length := by omega
   have CD := Hd.mk (rquot_Div A1 A2 c1 c2 x y wr ho1.out hc1 ho2.out hc2 hu.out.1 hu.out.2.1 hu.out.2.2.1 hu.out.2.2.2 hy)
   have hpos : Hd (0 < val y) := ⟨natMay_posN hu.out.2.2.2 hu.out.2.1 hy⟩
   go_wp2_with fail
   refine CD.out.mono ?_
   rintro e w3 ⟨q, r, rfl, _, hor, hb3⟩
   obtain ⟨A3, c3, rfl, hc3, _, hrr⟩ := hor.reads
   have HOR := Hd.mk hrr
   have HB3 := Hd.mk hb3
   have hlt : Hd (val x % val y < val y) := ⟨Nat.mod_lt _ hpos.out⟩
   have hz : Hd (natMay (limbs (val x % val y)) = true ∧ val (limbs (val x % val y)) = val x % val y) := ⟨limbs_may (by
    rw [limbs_len]
    have h1 := val_lt hu.out.2.1
    have h2 := natMay_len hu.out.2.2.2
    have h3 : 18446744073709551616 ^ y.length ≤ 18446744073709551616 ^ 8 := Nat.pow_le_pow_right (by decide) h2
    have := hlt.out
    omega), val_limbs _⟩
   clear hor hb3 hrr
   go_wp2_with fail
   go_roundg (val x % val y)
   case measure => rw [hk.out]; exact hlt.out
   case rel =>
    refine ⟨y, limbs (val x % val y), A2, A3, c2, c3, rfl, rfl, hc2, hc3, ⟨hz.out.2.symm⟩, ⟨ho2.out.up HB3.out⟩, HOR, ⟨hb.out.trans (HB3.out.mono hb.out.size)⟩, ⟨hu.out.2.1, limbs_u64 _, hu.out.2.2.2, hz.out.1⟩, ⟨?_⟩⟩
    rw [hz.out.2, ← hg.out, Nat.gcd_comm (val y), ← Nat.gcd_rec, Nat.gcd_comm]
  ·have hy0 : y.length = 0 := by omega
   have hyn := List.eq_nil_of_length_eq_zero hy0
   subst hyn
   clear hy hy0
   go_wp2_with fail
   go_ret2
   refine ⟨_, _, x, rfl, ?_, hc1, ho1.out, hb.out⟩
   have h1 := hg.out
   rw [show val [] = 0 from rfl, Nat.gcd_zero_right] at h1
   rw [← h1, natMay_limbs hu.out.2.2.1 hu.out.1]
theorem zeroCells_u64 (n : Nat) : Builtin.zeroCells (Value.int .u64 0).cells n = zer n := by
 apply Array.ext'
 have e : (Value.int .u64 0).cells = #[Value.int .u64 0] := rfl
 rw [e]
 apply List.ext_getElem
 ·simp [Builtin.zeroCells, zer, ints]
 ·intro j h1 h2
  simp [Builtin.zeroCells, zer, ints, Nat.mod_one]
theorem zer_list (n : Nat) : (zer n).toList = ints .u64 (List.replicate n 0) := by simp [zer]
theorem inf0 {P : Program} {t : TypeId} {z : Value} {s b : Nat} (h : (P.info? t).map (fun i => (i.zero, i.size, i.bytes)) = some (some z, s, b)) : (P.info? t).map (·.size) = some s := by
 obtain ⟨i, hi, h1, h2, h3⟩ := info_split h
 rw [hi]; simp [h2]
theorem run_append_zeros (w : World) (tn ty : TypeId) (kn k : IntKind) (htn : Tryz.prog.underlying tn = some (.int kn)) (base : Nat) (v : Value) (l : List Int) (hown : OwnI w base 112 .u64 v l)
    (m : Nat) (M : Int) (hM : M = m) (h9 : l.length + m ≤ 2000000000) (hbase : base ≤ w.heap.size) :
    ∃ v' w', (Builtin.append_ #[61, tn] ty #[v, .int k M]).run Tryz.prog w = .ok v' w' ∧ OwnI w' base 112 .u64 v' (l ++ List.replicate m 0) ∧ w.grownBy w' v.ownBlock ∧
     (v'.ownBlock = v.ownBlock ∨ v'.ownBlock = some w.heap.size) := by
 subst hM
 obtain ⟨i, hi, hz, hz1, hz2⟩ := info_split Tryz.infU64
 have ht := Tryz.slU64
 have hw : IntKind.i64.wrap (m : Int) = m := by rw [IntKind.wrap_i64]; omega
 have hneg : ¬ ((m : Int) < 0) := by omega
 have h48i : ¬ (281474976710656 < (m : Int) * (i.bytes : Int)) := by rw [hz2]; omega
 have hap : (if m * i.size = 0 then (pure #[] : Sem (Array Value)) else pure (Builtin.zeroCells (Value.int .u64 0).cells m)) = pure (zer m) := by
  split
  ·next h => rw [hz1, Nat.mul_one] at h; subst h; rfl
  ·rw [zeroCells_u64]
 unfold OwnI at hown
 rcases Nat.eq_zero_or_pos m with hm | hm
 ·subst hm
  have hw0 : IntKind.i64.wrap 0 = 0 := by rw [IntKind.wrap_i64]; omega
  refine ⟨v, w, ?_, by simpa [OwnI] using hown, World.grownBy.refl w _, .inl rfl⟩
  rcases hown.2 with ⟨rfl, h0⟩ | ⟨g, cap, cur, rfl, hbg, hg, hnc, hcm, hcs, htake⟩
  ·have hl : l = [] := List.eq_nil_of_length_eq_zero h0
   subst hl
   simp [Builtin.append_, run_underlying ht, run_underlying htn, sizeOf, typeInfo, hi, asInt, asIntOf, hw0]
  ·simp [Builtin.append_, run_underlying ht, run_underlying htn, sizeOf, typeInfo, hi, asInt, asIntOf, hw0, hnc, storeCells]
 rcases hown.2 with ⟨rfl, h0⟩ | ⟨g, cap, cur, rfl, hbg, hg, hnc, hcm, hcs, htake⟩
 ·have hl : l = [] := List.eq_nil_of_length_eq_zero h0
  subst hl
  have hr := Lib.run_append_nil_zeros (P := Tryz.prog) w 61 tn ty 112 i (.int .u64 0) k kn ht htn hi hz m hm (by omega) (by omega) (by rw [hz2]; omega)
  refine ⟨_, _, hr, ?_, ⟨rfl, rfl, rfl, by simp, fun j hk _ => heap_alloc_old w.drew _ hk⟩, .inr rfl⟩
  have hcm := grownCap_le_maxLen w m 0 112 (by unfold maxLen; omega)
  have hcg := grownCap_ge w m 0 112
  refine ⟨by simp [ints], .inr ⟨w.heap.size, _, _, by simp, hbase, heap_alloc_new w.drew _, by simpa using hcg, hcm, ?_, ?_⟩⟩
  ·rw [zeroCells_u64, zeroCells_u64, Array.size_append, zer_size, zer_size]; omega
  ·rw [zeroCells_u64, zeroCells_u64, Array.toList_append, zer_list, zer_list]
   rw [List.take_append_of_le_length (by simp [ints]), List.nil_append]
   exact List.take_of_length_le (by simp [ints])
 ·by_cases hroom : l.length + m ≤ cap
  ·have hfit : l.length * 1 + (ints .u64 (List.replicate m 0)).length ≤ cur.size := by rw [hcs, ints_len, List.length_replicate]; omega
   have hst := run_storeCells_at Tryz.prog g (l.length * 1) 112 (ints .u64 (List.replicate m 0)) 0 cur w hg (by simpa using hfit) (ints_one _ _)
   simp only [Nat.add_zero] at hst
   refine ⟨.slice (some ⟨g, 0, none⟩) (l.length + m) cap, w.setRow g (cur.toList.take (l.length * 1) ++ ints .u64 (List.replicate m 0) ++ cur.toList.drop (l.length * 1 + (ints .u64 (List.replicate m 0)).length)).toArray, ?_, ?_, ⟨rfl, rfl, rfl, by simp, fun j _ hk => setRow_other w g j _ (fun e => hk (by simp [Value.ownBlock, e]))⟩, .inl rfl⟩
   ·simp only [hz1, Nat.mul_one] at hst
    have hm0 : ¬ m = 0 := by omega
    simp [Builtin.append_, run_underlying ht, run_underlying htn, sizeOf, typeInfo, zeroValue, hi, hz, hz1, asInt, asIntOf, hw, hneg, h48i, hroom, Addr.add_lit, hm0, zeroCells_u64, zer_list]
    rw [hst]
    simp
   ·refine ⟨by simp [ints], .inr ⟨g, cap, _, by simp, hbg, setRow_heap w g cur _ 112 _ hg, by simpa using hroom, hcm, ?_, ?_⟩⟩
    ·simp only [List.size_toArray, List.length_append, List.length_take, List.length_drop, Array.length_toList, ints_len, List.length_replicate]
     omega
    ·rw [htake, ← ints_app]
     exact List.take_left' (by simp [ints])
  ·have hhold := run_firstCells_some (P := Tryz.prog) w.drew i.size l.length ⟨g, 0, none⟩ l.length cap (ints .u64 l) (by rw [hz1]; simp [ints]) (by simpa using hown.cells (g := g) rfl)
   have h63' : ¬ (9223372036854775807 < ((l.length : Int) + (m : Int))) := by omega
   have h48' : ¬ (281474976710656 < Builtin.nextslicecap (l.length + m) cap * i.bytes) := by
    have := growslice_fits (need := l.length + m) (old := cap) (by omega) (show (l.length + m) * i.bytes ≤ 140737488355328 by rw [hz2]; omega)
    omega
   have hcm2 := grownCap_le_maxLen w (l.length + m) cap 112 (by unfold maxLen; omega)
   have hcg := grownCap_ge w (l.length + m) cap 112
   have hm0 : ¬ m = 0 := by omega
   refine ⟨.slice (some ⟨w.heap.size, 0, none⟩) (l.length + m) (grownCap w (l.length + m) cap 112), w.drew.alloc (.cells ((ints .u64 l).toArray ++ (zer m ++ zer (grownCap w (l.length + m) cap 112 - (l.length + m)))) 112), ?_, ?_, ⟨rfl, rfl, rfl, by simp, fun j hk _ => heap_alloc_old w.drew _ hk⟩, .inr rfl⟩
   ·simp only [hz1] at hhold
    simp [Builtin.append_, run_underlying ht, run_underlying htn, sizeOf, typeInfo, zeroValue, hi, hz, hz1, asInt, asIntOf, hw, hneg, h48i, hroom, h63', h48', Question.forced, hhold, newRow, grownCap, hm0, zeroCells_u64]
   ·refine ⟨by simp [ints], .inr ⟨w.heap.size, _, _, by simp, hbase, heap_alloc_new w.drew _, by simpa using hcg, hcm2, ?_, ?_⟩⟩
    ·rw [Array.size_append, Array.size_append, zer_size, zer_size]; simp [ints]; omega
    ·rw [Array.toList_append, Array.toList_append, zer_list, zer_list, ← List.append_assoc, ← ints_app]
     exact List.take_left' (by simp [ints])
theorem step_append_zeros (w : World) {ops : Array Oper} {o : Oper} {a : Act} {K : Act → World → Prop} {Q : Exit → Act → World → Prop} {E : Prop} (hgd : o.guard = none) (s x : Operand) (tn : TypeId)
    (ho : o.op = .call { callee := .builtin .append, args := #[s, x], argTypes := #[61, tn] }) (kn k : IntKind) (htn : Tryz.prog.underlying tn = some (.int kn)) (base : Nat) (v : Value) (l : List Int)
    (hs : a.eval s = v) (hown : OwnI w base 112 .u64 v l) (m : Nat) (M : Int) (hx : a.eval x = .int k M) (hM : M = m) (h9 : l.length + m ≤ 2000000000) (hbase : base ≤ w.heap.size)
    (h : ∀ v' w', OwnI w' base 112 .u64 v' (l ++ List.replicate m 0) → w.grownBy w' v.ownBlock → (v'.ownBlock = v.ownBlock ∨ v'.ownBlock = some w.heap.size) → K (a.put o.dst v') w') :
    if Region.wanted o (yielded ops a.tmps) = true then Oper.wp Tryz.prog o a w K Q else E := by
 have hw : Region.wanted o (yielded ops a.tmps) = true := by simp [Region.wanted, hgd]
 rw [if_pos hw]
 obtain ⟨v', w', hrun, h2, h3, h4⟩ := run_append_zeros w tn o.type kn k htn base v l hown m M hM h9 hbase
 unfold Oper.wp execOp
 simp only [ho, resolve, invoke, builtin, Sem.run_bind, Sem.run_pure, Result.andThen_ok, List.map_toArray, List.map_cons, List.map_nil, hs, hx, hrun]
 exact h v' w' h2 h3 h4
theorem step_copy_row {P : Program} {ops : Array Oper} {o : Oper} {a : Act} {w : World} {K : Act → World → Prop} {Q : Exit → Act → World → Prop} {E : Prop} (hgd : o.guard = none) (d s : Operand) (dT sT : TypeId)
    (ho : o.op = .call { callee := .builtin .copy, args := #[d, s], argTypes := #[dT, sT] }) (elem : TypeId) (hu : P.underlying dT = some (.slice elem)) (hsz : (P.info? elem).map (·.size) = some 1)
    (g off dLen dCap : Nat) (ad : Addr) (sLen sCap : Nat) (hd : a.eval d = .slice (some ⟨g, off, none⟩) dLen dCap) (hs : a.eval s = .slice (some ad) sLen sCap)
    (cur : List Value) (t : TypeId) (hg : Bk w g t cur.toArray) (cs : List Value) (hn : cs.length = Nat.min sLen dLen)
    (hsrc : ∀ j v, cs[j]? = some v → w.cell? (ad.add j) = some v) (hfit : off + cs.length ≤ cur.length) (h1 : ∀ v ∈ cs, v.oneCell' = true)
    (h : K (a.put o.dst (goInt cs.length)) (w.setRow g (splice cur off cs).toArray)) :
    if Region.wanted o (yielded ops a.tmps) = true then Oper.wp P o a w K Q else E := by
 have hw : Region.wanted o (yielded ops a.tmps) = true := by simp [Region.wanted, hgd]
 rw [if_pos hw]
 have hrun := run_copy_row (P := P) w dT sT o.type elem g off dLen dCap ad sLen sCap cur.toArray t cs hu hsz hg hn hsrc (by simpa using hfit) h1
 unfold Oper.wp
 simp [execOp, ho, resolve, invoke, builtin, hd, hs, hrun, Result.andThen]
 simp only [splice] at h
 exact h
theorem Bk.row {w : World} {g : Nat} {t : TypeId} {cs : Array Value} (h : Bk w g t cs) (ds : Array Value) : Bk (w.setRow g ds) g t ds := setRow_heap w g cs _ t _ h
theorem row_grown {w w' : World} {g : Nat} (h : w.grownBy w' (some g)) (ds : Array Value) : w.grownBy (w'.setRow g ds) (some g) :=
 ⟨h.os, h.tape, h.output, by simpa [World.setRow] using h.size, fun k hk hne => (setRow_other w' g k ds (fun e => hne (by rw [e]))).trans (h.block k hk hne)⟩
theorem Rd.win {w : World} {g off n : Nat} {t : TypeId} {cur : List Value} {U : List Int} (hb : Bk w g t cur.toArray) (h : (cur.drop off).take n = ints .u64 U) (hn : U.length = n) : RdI w .u64 (some ⟨g, off, none⟩) U := by
 refine ⟨by simp [ints], fun h0 => ⟨_, rfl, hb.lt, fun j u hu => ?_⟩⟩
 rw [add_win, hb.cell, ← h] at *
 rw [List.getElem?_take] at hu
 split at hu
 ·rw [List.getElem?_drop] at hu
  simpa using hu
 ·cases hu
theorem grown_of {w w3 w' : World} {row row2 : Option Nat} (hg : w3.drew.grownBy w' row) (hb : Below w.heap.size w w3) (hr : ∀ k, k < w.heap.size → some k ≠ row) : w.grownBy w' row2 :=
 ⟨hg.os.trans hb.os, hg.tape.trans hb.tape, hg.output.trans hb.output, Nat.le_trans hb.size hg.size, fun k hk _ => (hg.block k (Nat.lt_of_lt_of_le hk hb.size) (hr k hk)).trans (hb.block k hk)⟩
theorem digit_1 (g off c' gv gq gu d : Nat) (B : Option Addr) (cur : List Value) (U V : List Int) (q : Int) (w : World) (hb : Bk w g 112 cur.toArray) (hU : (cur.drop off).take U.length = ints .u64 U) (hc' : U.length ≤ c')
    (hV : RdI w .u64 B V) (hd : V.length ≤ d) (uU : U64 U) (uV : U64 V) (hu9 : U.length ≤ 90000000) (hv9 : V.length ≤ 90000000) (hu1 : 0 < U.length)
    (bv : Bk w gv 61 #[.slice B V.length d]) (bq : Bk w gq 112 #[.int .u64 q]) (bu : Bk w gu 61 #[.slice (some ⟨g, off, none⟩) U.length c']) (q0 : 0 ≤ q) (q1 : q < 18446744073709551616) :
    Calls Tryz.prog 300 #[.pointer (some ⟨gv, 0, none⟩), .pointer (some ⟨gq, 0, none⟩), .pointer (some ⟨gu, 0, none⟩)] w fun e w' =>
     (val U < val V * q.toNat ∧ e = .returned (.bool false) ∧ Below w.heap.size w w') ∨
     (val V * q.toNat ≤ val U ∧ e = .returned (.bool true) ∧ w.grownBy w' (some g) ∧ ∃ R, Bk w' g 112 (splice cur off (ints .u64 R)).toArray ∧ R.length = U.length ∧ U64 R ∧ val R = val U - val V * q.toNat) := by
 have HW := Hd.mk (Rd.win hb hU rfl)
 have HBk := Hd.mk hb
 have HV := Hd.mk hV
 have hlen : (cur.drop off).length ≥ U.length := by
  have := congrArg List.length hU
  rw [List.length_take, ints_len] at this
  omega
 rw [List.length_drop] at hlen
 have HUU := Hd.mk hU
 clear hb hV hU
 have lv : w.cell? ⟨gv, 0, none⟩ = some (.slice B V.length d) := by rw [bv.cell]; rfl
 have lq : w.cell? ⟨gq, 0, none⟩ = some (.int .u64 q) := by rw [bq.cell]; rfl
 have b1 : Hd (Below w.heap.size w (w.alloc (.cells #[.int .u64 q] 112))) := ⟨(Below.refl _ _).alloc (Nat.le_refl _) _⟩
 have r1 : Hd (RdI (w.alloc (.cells #[.int .u64 q] 112)) .u64 (some ⟨w.heap.size, 0, none⟩) [q]) := ⟨by
  have := Rd.new_ w #[.int .u64 q] 112 1 1 rfl
  unfold RdI
  rw [show (w.alloc (.cells #[.int .u64 q] 112)).heap.size = w.heap.size + 1 by simp]
  exact this⟩
 have CM := Hd.mk (limb_Mul B (some ⟨w.heap.size, 0, none⟩) d 1 V [q] _ (HV.out.up b1.out) hd hv9 r1.out (Nat.le_refl _) (by simp) uV (U64.nil.cons q0 q1))
 have bu_ := Hd.mk bu
 have hgl := bu.lt
 clear bq bv bu
 go_enter Tryz.func300, Tryz.ntmps300
 go_wp2_with fail
 refine CM.out.mono ?_
 rintro e w2 ⟨v, rfl, ho, hb⟩
 have vq : val [q] = q.toNat := by simp [val]
 rw [vq] at ho
 have B2 : Hd (Below w.heap.size w w2) := ⟨b1.out.trans (hb.mono (by simp))⟩
 obtain ⟨A4, c4, rfl, hc4, _, hr4⟩ := ho.reads
 have bu2 := Hd.mk (bu_.out.below B2.out hgl)
 have lu : w2.cell? ⟨gu, 0, none⟩ = some (.slice (some ⟨g, off, none⟩) U.length c') := by rw [bu2.out.cell]; rfl
 have HR4 := Hd.mk hr4
 have hrl : (limbs (val V * q.toNat)).length ≤ V.length + 1 := by
  rw [limbs_len, Nat.pow_succ]
  have := val_lt uV
  have h2 : q.toNat < 18446744073709551616 := by omega
  exact Nat.mul_lt_mul_of_lt_of_le this (Nat.le_of_lt h2) (by omega)
 have RU := Hd.mk (HW.out.up B2.out)
 clear ho hb CM r1 b1 hr4 lv lq
 by_cases hlt : val U < val V * q.toNat
 ·have CS := Hd.mk (limb_Sub_lt (some ⟨g, off, none⟩) A4 c' c4 U (limbs (val V * q.toNat)) w2 RU.out hc' (by omega) HR4.out hc4 (by omega) uU (limbs_u64 _) (by rw [val_limbs]; exact hlt))
  have HL := Hd.mk hlt
  clear hlt
  go_wp2_with fail
  refine CS.out.mono ?_
  rintro e w3 ⟨rfl, hd3⟩
  have HD := Hd.mk hd3
  clear hd3
  go_wp2_with fail
  go_ret
  exact .inl ⟨HL.out, rfl, B2.out.trans (HD.out.below.mono B2.out.size)⟩
 ·have hge : val V * q.toNat ≤ val U := by omega
  have CS := Hd.mk (limb_Sub_ge (some ⟨g, off, none⟩) A4 c' c4 U (limbs (val V * q.toNat)) w2 RU.out hc' (by omega) HR4.out hc4 (by omega) uU (limbs_u64 _) (by rw [val_limbs]; exact hge))
  rw [val_limbs] at CS
  have HG := Hd.mk hge
  clear hlt hge
  go_wp2_with fail
  refine CS.out.mono ?_
  rintro e w3 ⟨v, rfl, ho, hb⟩
  obtain ⟨A5, c5, rfl, hc5, _, _⟩ := ho.reads
  have hxl : (limbs (val U - val V * q.toNat)).length ≤ U.length := by
   rw [limbs_len]
   have := val_lt uU
   omega
  have HX : Hd (val (limbs (val U - val V * q.toNat)) = val U - val V * q.toNat) := ⟨val_limbs _⟩
  have HXU := Hd.mk (limbs_u64 (val U - val V * q.toNat))
  generalize limbs (val U - val V * q.toNat) = x at *
  have HO := Hd.mk ho
  have B3 : Hd (Below w.heap.size w w3) := ⟨B2.out.trans (hb.mono B2.out.size)⟩
  have hs2 := B2.out.size
  have hs3 := hb.size
  have bu3 := Hd.mk (bu_.out.below B3.out hgl)
  have bg3 := Hd.mk (HBk.out.below B3.out HBk.out.lt)
  have hgl2 := HBk.out.lt
  have lu3 : w3.cell? ⟨gu, 0, none⟩ = some (.slice (some ⟨g, off, none⟩) U.length c') := by rw [bu3.out.cell]; rfl
  have hne : ∀ k, k < w.heap.size → some k ≠ (Value.slice A5 x.length c5).ownBlock := fun k hk e => by
   have := (World.ownsRow.lt HO.out k e.symm).1
   omega
  have HNE := Hd.mk hne
  have hM : IntKind.i64.wrap ((U.length : Int) - (x.length : Int)) = (U.length - x.length : Nat) := by rw [IntKind.wrap_i64]; omega
  have HM := Hd.mk hM
  clear ho hb CS lu hne hM hs2
  go_wp2_with fail
  have HL8 : Hd ((x ++ List.replicate (U.length - x.length) 0).length = U.length) := ⟨by simp; omega⟩
  have hfit8 : off + (ints .u64 (x ++ List.replicate (U.length - x.length) 0)).length ≤ cur.length := by rw [ints_len, HL8.out]; omega
  have HF8 := Hd.mk hfit8
  clear hfit8
  go_region_law (first
   | (refine step_append_zeros _ rfl _ _ 3 rfl .i64 .i64 (by kernel_rfl) w2.heap.size _ _ rfl HO.out.d1 _ _ rfl HM.out (by omega) hs3 ?_
      intro v' w' ho hg _
      obtain ⟨A8, c8, rfl, hc8, _, hr8⟩ := ho.reads
      obtain ⟨a8, rfl, _, hsrc⟩ := hr8.2 (by rw [HL8.out]; exact hu1)
      have bg8 := Hd.mk (Bk.grown bg3.out.d1 hg (HNE.out _ hgl2))
      have bu8 := Hd.mk (Bk.grown bu3.out.d1 hg (HNE.out _ hgl))
      have lu8 : w'.cell? ⟨gu, 0, none⟩ = some (.slice (some ⟨g, off, none⟩) U.length c') := by rw [bu8.out.cell]; rfl
      have HS8 := Hd.mk hsrc
      have HG8 := Hd.mk hg
      clear ho hg hr8 hsrc)
   | (refine step_copy_row rfl _ _ _ _ rfl 112 Tryz.slU64 (inf0 Tryz.infU64) g off _ _ _ _ _ rfl rfl cur _ bg8.out (ints .u64 (x ++ List.replicate (U.length - x.length) 0)) (by rw [ints_len, HL8.out]; exact (Nat.min_self _).symm) HS8.out HF8.out (ints_one _ _) ?_))
  all_goals (
   go_wp2_with fail
   go_ret
   refine .inr ⟨HG.out, rfl, row_grown ?_ _, _, bg8.out.row _, HL8.out, HXU.out.app (zeros_u64 _), ?_⟩
   ·exact grown_of HG8.out B3.out HNE.out
   ·rw [val_app, zeros_val, Nat.mul_zero, Nat.add_zero]; exact HX.out)
theorem val_top {l : List Int} {m : Nat} (h : l.length = m + 1) : val l = val (l.take m) + 18446744073709551616 ^ m * (l.getD m 0).toNat := by
 rw [← val_take_succ, ← h, List.take_length]
theorem guess_ge {U V : List Int} {m : Nat} (uU : U64 U) (uV : U64 V) (hV : V.length = m + 1) (hU : U.length = m + 2) (un un1 vn D : Int) (h1 : U.getD (m + 1) 0 = un) (h2 : U.getD m 0 = un1) (h3 : V.getD m 0 = vn)
    (hlt : un < vn) (hD : D = (un * 18446744073709551616 + un1) / vn) : val U / val V ≤ D.toNat ∧ 0 ≤ D ∧ D < 18446744073709551616 := by
 have a1 := uU.at_ (m + 1)
 have a2 := uU.at_ m
 have a3 := uV.at_ m
 rw [h1] at a1; rw [h2] at a2; rw [h3] at a3
 have hVv := val_top hV
 have hUv := val_top (l := U) (m := m + 1) hU
 rw [val_take_succ, h1, h2] at hUv
 rw [h3] at hVv
 have hlow := val_lt (uU.take m)
 rw [List.length_take, hU, Nat.min_eq_left (by omega)] at hlow
 obtain ⟨a, rfl⟩ := Int.eq_ofNat_of_zero_le a1.1
 obtain ⟨b, rfl⟩ := Int.eq_ofNat_of_zero_le a2.1
 obtain ⟨c, rfl⟩ := Int.eq_ofNat_of_zero_le a3.1
 have hc : 0 < c := by omega
 have hD2 : D = ((a * 18446744073709551616 + b) / c : Nat) := by rw [hD]; simp
 clear hD
 subst hD2
 simp only [Int.toNat_natCast] at *
 have hdm := Nat.div_add_mod (a * 18446744073709551616 + b) c
 have hml := Nat.mod_lt (a * 18446744073709551616 + b) hc
 have hub : (a * 18446744073709551616 + b) / c < 18446744073709551616 := by
  apply Nat.div_lt_of_lt_mul
  have : (a + 1) * 18446744073709551616 ≤ c * 18446744073709551616 := Nat.mul_le_mul_right _ (by omega)
  omega
 generalize (a * 18446744073709551616 + b) / c = d at *
 generalize (a * 18446744073709551616 + b) % c = r at *
 refine ⟨?_, by omega, by omega⟩
 rw [Nat.pow_succ] at hUv
 have hp : 0 < 18446744073709551616 ^ m := Nat.pow_pos (by decide)
 generalize 18446744073709551616 ^ m = P at *
 have key : val U < val V * (d + 1) := by
  have e1 : P * (a * 18446744073709551616 + b + 1) ≤ P * (c * (d + 1)) := Nat.mul_le_mul_left _ (by rw [Nat.mul_add]; omega)
  have e2 : P * (c * (d + 1)) = P * c * (d + 1) := by rw [Nat.mul_assoc]
  have e3 : P * c * (d + 1) ≤ val V * (d + 1) := Nat.mul_le_mul_right _ (by omega)
  rw [Nat.mul_add, Nat.mul_add] at e1
  have e4 : P * (a * 18446744073709551616) = P * 18446744073709551616 * a := by rw [Nat.mul_comm a, Nat.mul_assoc]
  omega
 exact Nat.le_of_lt_succ (Nat.div_lt_of_lt_mul key)
theorem quot_digit (g off c' d : Nat) (B : Option Addr) (cur : List Value) (U V : List Int) (w : World) (hb : Bk w g 112 cur.toArray) (hU : (cur.drop off).take U.length = ints .u64 U) (hc' : U.length ≤ c')
    (hV : RdI w .u64 B V) (hd : V.length ≤ d) (uU : U64 U) (uV : U64 V) (hu9 : U.length ≤ 90000000) (hv1 : 0 < V.length) (hUV : U.length = V.length + 1) (hlt : val U < 18446744073709551616 * val V) :
    Calls Tryz.prog 279 #[.slice (some ⟨g, off, none⟩) U.length c', .slice B V.length d] w fun e w' =>
     e = .returned (.int .u64 (val U / val V : Nat)) ∧ w.grownBy w' (some g) ∧ ∃ R, Bk w' g 112 (splice cur off (ints .u64 R)).toArray ∧ R.length = U.length ∧ U64 R ∧ val R = val U % val V := by
 have HUV := Hd.mk hUV
 have HBk := Hd.mk hb
 have HUU := Hd.mk hU
 have HLT := Hd.mk hlt
 have HV := Hd.mk hV
 have hgl := hb.lt
 have hv9 : V.length ≤ 90000000 := by omega
 have hfl : Hd (val U / val V < 18446744073709551616) := ⟨Nat.div_lt_of_lt_mul (by rw [Nat.mul_comm]; exact hlt)⟩
 have hv0 : Hd (0 < val V) := ⟨by omega⟩
 obtain ⟨bd, vn, rfl, hbl, hvn, hcv⟩ := hV.get (i := V.length - 1) (by omega)
 have RU := Rd.win hb hU rfl
 obtain ⟨ad, un, had, _, hun, hcu⟩ := RU.get (i := V.length) (by omega)
 injection had with had
 subst had
 obtain ⟨ad, un1, had, _, hun1, hcu1⟩ := RU.get (i := V.length - 1) (by omega)
 injection had with had
 subst had
 rw [add_win] at hcu hcu1
 obtain ⟨N1, hN1⟩ : ∃ N1, V.length - 1 = N1 := ⟨_, rfl⟩
 rw [hN1] at hvn hcv hun1 hcu1
 have n1 : IntKind.i64.wrap ((V.length : Int) - 1) = N1 := by rw [IntKind.wrap_i64]; omega
 have n3 : (0 : Int) ≤ (N1 : Int) := by omega
 have n4 : (N1 : Int) < V.length := by omega
 have n5 : (N1 : Int) < U.length := by omega
 have n6 : (V.length : Int) < U.length := by omega
 have a1 := uU.at_ V.length
 have a2 := uU.at_ N1
 have a3 := uV.at_ N1
 rw [hun.out] at a1; rw [hun1.out] at a2; rw [hvn.out] at a3
 have HN1 := Hd.mk hN1
 clear hN1
 clear hb hU hlt hUV RU hV
 go_enter Tryz.func279, Tryz.ntmps279
 go_wp2_with fail
 obtain ⟨W, hW⟩ : ∃ W, W = ((w.alloc (Obj.cells #[Value.slice (some { block := g, off := off }) U.length c'] 61)).alloc (Obj.cells #[Value.slice (some bd) V.length d] 61)) := ⟨_, rfl⟩
 rw [← hW]
 have bu : Hd (Bk W w.heap.size 61 #[.slice (some ⟨g, off, none⟩) U.length c']) := ⟨by rw [hW]; exact (Bk.new_ _ _ _).al _⟩
 have bv : Hd (Bk W (w.heap.size + 1) 61 #[.slice (some bd) V.length d]) := ⟨by
  rw [hW]
  have := Bk.new_ (w.alloc (Obj.cells #[Value.slice (some { block := g, off := off }) U.length c'] 61)) 61 #[.slice (some bd) V.length d]
  simpa using this⟩
 have hWs : W.heap.size = w.heap.size + 2 := by rw [hW]; simp
 have hWb : Hd (Below w.heap.size w W) := ⟨by rw [hW]; exact ((Below.refl _ _).alloc (Nat.le_refl _) _).alloc (by simp) _⟩
 have HWS := Hd.mk hWs
 clear hW hWs
 have lv : W.cell? ⟨w.heap.size + 1, 0, none⟩ = some (.slice (some bd) V.length d) := by rw [bv.out.cell]; rfl
 go_step3
 go_wp2_with fail
 obtain ⟨W2, hW2⟩ : ∃ W2, W2 = (W.alloc (Obj.cells #[Value.int .u64 18446744073709551615] 112)) := ⟨_, rfl⟩
 rw [← hW2]
 have bu2 : Hd (Bk W2 w.heap.size 61 #[.slice (some ⟨g, off, none⟩) U.length c']) := ⟨by rw [hW2]; exact bu.out.al _⟩
 have bv2 : Hd (Bk W2 (w.heap.size + 1) 61 #[.slice (some bd) V.length d]) := ⟨by rw [hW2]; exact bv.out.al _⟩
 have bq2 : Hd (Bk W2 W.heap.size 112 #[.int .u64 18446744073709551615]) := ⟨by rw [hW2]; exact Bk.new_ W 112 _⟩
 have hW2b : Hd (Below w.heap.size w W2) := ⟨by rw [hW2]; exact hWb.out.alloc (by have := HWS.out; omega) _⟩
 have hgq : w.heap.size + 2 ≤ W.heap.size := by have := HWS.out; omega
 clear hW2 lv bu bv hWb
 generalize W.heap.size = gq at *
 clear HWS
 have lu2 : W2.cell? ⟨w.heap.size, 0, none⟩ = some (.slice (some ⟨g, off, none⟩) U.length c') := by rw [bu2.out.cell]; rfl
 have lv2 : W2.cell? ⟨w.heap.size + 1, 0, none⟩ = some (.slice (some bd) V.length d) := by rw [bv2.out.cell]; rfl
 have lcu : W2.cell? ⟨g, off + V.length, none⟩ = some (.int .u64 un) := (hW2b.out.cell (p := ⟨g, off + V.length, none⟩) hgl).trans hcu
 have lcu1 : W2.cell? ⟨g, off + N1, none⟩ = some (.int .u64 un1) := (hW2b.out.cell (p := ⟨g, off + N1, none⟩) hgl).trans hcu1
 have lcv : W2.cell? (bd.add N1) = some (.int .u64 vn) := (hW2b.out.cell (by rw [add_block]; exact hbl)).trans hcv
 have lq2 : W2.cell? ⟨gq, 0, none⟩ = some (.int .u64 18446744073709551615) := by rw [bq2.out.cell]; rfl
 have fq2 : W2.frozen? ⟨gq, 0, none⟩ = false := bq2.out.froz 0
 clear hcu hcu1 hcv
 have hf1 : gq ≠ w.heap.size := by omega
 have hf2 : gq ≠ w.heap.size + 1 := by omega
 have hf3 : gq ≠ g := by omega
 have hf4 : gq ≠ bd.block := by omega
 have HQD : Hd (un < vn → ∀ D, D = (un * 18446744073709551616 + un1) / vn → val U / val V ≤ D.toNat ∧ 0 ≤ D ∧ D < 18446744073709551616) := ⟨fun hq D hD =>
  guess_ge (m := N1) uU uV (by have := HN1.out; omega) (by have := HUV.out; have := HN1.out; omega) un un1 vn D (by rw [show N1 + 1 = V.length by have := HN1.out; omega]; exact hun.out) hun1.out hvn.out hq hD⟩
 go_quiet (fail)
 go_upto_if 19 with (fail)
 go_cut [20] (fun _ wx => ∃ q : Int, Hd (val U / val V ≤ q.toNat) ∧ 0 ≤ q ∧ q < 18446744073709551616 ∧ Hd (Bk wx w.heap.size 61 #[.slice (some ⟨g, off, none⟩) U.length c']) ∧
  Hd (Bk wx (w.heap.size + 1) 61 #[.slice (some bd) V.length d]) ∧ Hd (Bk wx gq 112 #[.int .u64 q]) ∧ Hd (Below w.heap.size w wx))
 case first =>
  by_cases hq : un < vn
  ·obtain ⟨D, hD⟩ : ∃ D, D = (un * 18446744073709551616 + un1) / vn := ⟨_, rfl⟩
   obtain ⟨k1, k2, k3⟩ := HQD.out hq D hD
   have DV := Hd.mk (fun W' => div64 un un1 vn W' a1.1 hq a3.2 a2.1 a2.2)
   rw [← hD] at DV
   have K1 := Hd.mk k1
   clear hD k1
   have hqd : decide (un < vn) = true := decide_eq_true hq
   go_wp2_with fail
   go_region_held3 (fun w' => w'.cell? ⟨w.heap.size, 0, none⟩ = some (.slice (some ⟨g, off, none⟩) U.length c') ∧ w'.cell? ⟨w.heap.size + 1, 0, none⟩ = some (.slice (some bd) V.length d) ∧
       w'.cell? ⟨g, off + V.length, none⟩ = some (.int .u64 un) ∧ w'.cell? ⟨g, off + N1, none⟩ = some (.int .u64 un1) ∧ w'.cell? (bd.add N1) = some (.int .u64 vn))
    (first
     | exact ⟨lu2, lv2, lcu, lcu1, lcv⟩
     | exact ⟨(far1 rfl hf1).trans lu2, (far1 rfl hf2).trans lv2, (far1 rfl hf3).trans lcu, (far1 rfl hf3).trans lcu1, (far1 (add_block _ _) hf4).trans lcv⟩)
    (first | (go_at_call 299; refine (DV.out _).mono ?_; rintro e w' ⟨rfl, ⟨nq2, rfl⟩⟩))
   go_wp2_with fail
   go_meet
   exact ⟨D, K1, k2, k3, ⟨(bu2.out.dn _).far hf1.symm _⟩, ⟨(bv2.out.dn _).far hf2.symm _⟩, ⟨(bq2.out.dn _).set_ 0 _⟩, ⟨(Below.dn hW2b.out _).setCell (by simp; omega) _⟩⟩
  ·have hqd : decide (un < vn) = false := decide_eq_false hq
   go_wp2_with fail
   go_meet
   exact ⟨18446744073709551615, ⟨by have := hfl.out; omega⟩, by omega, by omega, ⟨bu2.out.dn _⟩, ⟨bv2.out.dn _⟩, ⟨bq2.out.dn _⟩, ⟨Below.dn hW2b.out _⟩⟩
 case rest =>
  obtain ⟨q, K, q0, q1, bu3, bv3, bq3, hb3⟩ := hcut
  clear lu2 lv2 lcu lcu1 lcv lq2 fq2 bu2 bv2 bq2 hW2b HQD
  go_wp2_with fail
  go_step3
  go_wp2_with fail
  go_loopg [39] q.toNat (fun k _ wr => ∃ q : Int, Hd (k = q.toNat) ∧ Hd (val U / val V ≤ q.toNat) ∧ 0 ≤ q ∧ q < 18446744073709551616 ∧ Hd (Bk wr w.heap.size 61 #[.slice (some ⟨g, off, none⟩) U.length c']) ∧
      Hd (Bk wr (w.heap.size + 1) 61 #[.slice (some bd) V.length d]) ∧ Hd (Bk wr gq 112 #[.int .u64 q]) ∧ Hd (Below w.heap.size w wr))
  case atStart => exact ⟨q, ⟨rfl⟩, K, q0, q1, bu3, bv3, bq3, hb3⟩
  case round =>
   clear K q0 q1 bu3 bv3 bq3 hb3
   obtain ⟨q, hk, K, q0, q1, bu3, bv3, bq3, hb3⟩ := hrel
   have CD := Hd.mk (digit_1 g off c' (w.heap.size + 1) gq w.heap.size d (some bd) cur U V q wr (HBk.out.below hb3.out hgl) HUU.out hc' (HV.out.up hb3.out) hd uU uV hu9 hv9 (by omega) bv3.out bq3.out bu3.out q0 q1)
   go_wp2_with fail
   refine CD.out.mono ?_
   rintro e w4 (⟨c1, rfl, hb4⟩ | ⟨c1, rfl, hg4, R, hR1, hR2, hR3, hR4⟩)
   ·have H1 := Hd.mk c1
    have H4 := Hd.mk hb4
    have bq4 := Hd.mk (bq3.out.up hb4)
    have lq4 : w4.cell? ⟨gq, 0, none⟩ = some (.int .u64 q) := by rw [bq4.out.cell]; rfl
    have fq4 : w4.frozen? ⟨gq, 0, none⟩ = false := bq4.out.froz 0
    have hq1 : val U / val V < q.toNat := Nat.div_lt_of_lt_mul c1
    have hqz : 0 < q.toNat := Nat.lt_of_le_of_lt (Nat.zero_le _) hq1
    have hqe : (q - 1).toNat = q.toNat - 1 := by omega
    have hw : IntKind.u64.wrap (q - 1) = q - 1 := by rw [IntKind.wrap_u64]; omega
    have hq1' : val U / val V ≤ (q - 1).toNat := by rw [hqe]; exact Nat.le_sub_one_of_lt hq1
    clear hqe
    have HQ1 := Hd.mk hq1'
    have hqp : 1 ≤ q := by omega
    clear c1 hb4 hq1 hq1'
    go_wp2_with fail
    go_roundg (q - 1).toNat
    case measure => have := hk.out; omega
    case rel =>
     exact ⟨q - 1, ⟨rfl⟩, HQ1, by omega, by omega, ⟨(bu3.out.up H4.out).far hf1.symm _⟩, ⟨(bv3.out.up H4.out).far hf2.symm _⟩, ⟨bq4.out.set_ 0 _⟩, ⟨(hb3.out.trans (H4.out.mono hb3.out.size)).setCell (by simp; omega) _⟩⟩
   ·have H1 := Hd.mk c1
    have H4 := Hd.mk hg4
    have bq4 := Hd.mk (bq3.out.grown hg4 (fun e => hf3 (by injection e)))
    have lq4 : w4.cell? ⟨gq, 0, none⟩ = some (.int .u64 q) := by rw [bq4.out.cell]; rfl
    have HR := Hd.mk (And.intro hR1 (And.intro hR2 (And.intro hR3 hR4)))
    clear c1 hg4 hR1 hR2 hR3 hR4
    go_wp2_with fail
    simp only [Exit.inBlock, Exit.then, Exit.noGoto_ret]
    go_ret
    have e0 : val U / val V = q.toNat := Nat.le_antisymm K.out ((Nat.le_div_iff_mul_le hv0.out).2 (by rw [Nat.mul_comm]; exact H1.out))
    obtain ⟨h1, h2, h3, h4⟩ := HR.out
    refine ⟨by rw [e0, Int.toNat_of_nonneg q0]; rfl, ⟨H4.out.os.trans hb3.out.os, H4.out.tape.trans hb3.out.tape, H4.out.output.trans hb3.out.output, Nat.le_trans hb3.out.size H4.out.size, fun k hk hne => (H4.out.block k (Nat.lt_of_lt_of_le hk hb3.out.size) hne).trans (hb3.out.block k hk)⟩, R, h1, h2, h3, ?_⟩
    have := Nat.div_add_mod (val U) (val V)
    rw [e0] at this
    omega
end Go.Proofs.YtgjkgkgieeoalaaGreat
