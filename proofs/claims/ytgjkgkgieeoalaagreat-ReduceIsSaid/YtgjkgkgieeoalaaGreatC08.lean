/- Parts of the proof, joined: each theorem says what it shows. -/
import Derived.Test.YtgjkgkgieeoalaaGreatC07
import Derived.Deep.RegionLaw
set_option linter.unusedVariables false
set_option linter.unusedSimpArgs false
set_option maxHeartbeats 24000000
set_option maxRecDepth 100000
namespace Go.Proofs.YtgjkgkgieeoalaaGreat
open Go.RowKit
theorem step_append_rd {P : Program} (w : World) {ops : Array Oper} {o : Oper} {a : Act} {K : Act → World → Prop} {Q : Exit → Act → World → Prop} {E : Prop} (hgd : o.guard = none) (s x : Operand) (t : TypeId)
    (ho : o.op = .call { callee := .builtin .append, args := #[s, x], argTypes := #[t, t] })
    (base : Nat) (e : TypeId) (i : TypeInfo) (z : Value) (sz bytes : Nat) (ht : P.underlying t = some (.slice e)) (hi : P.info? e = some i) (hz : i.zero = some z)
    (hsize : i.size = sz) (hby : i.bytes = bytes) (hzs : z.cells.size = sz) (hsz : 0 < sz)
    (v : Value) (n : Nat) (xs : List Value) (hs : a.eval s = v) (hown : w.ownsRow base e sz v n xs)
    (B : Nat) (A : Option Addr) (m c : Nat) (news : List Value) (hx : a.eval x = .slice A m c) (hr : Rd w B sz A m news) (h1 : ∀ u ∈ news, u.oneCell' = true)
    (h63 : n + m ≤ maxLen) (hbytes : (n + m) * bytes ≤ 140737488355328) (hbase : base ≤ w.heap.size)
    (h : ∀ v' w', w'.ownsRow base e sz v' (n + m) (xs ++ news) → w.grownBy w' v.ownBlock → (v'.ownBlock = v.ownBlock ∨ v'.ownBlock = some w.heap.size) → K (a.put o.dst v') w') :
    if Region.wanted o (yielded ops a.tmps) = true then Oper.wp P o a w K Q else E := by
 have hw : Region.wanted o (yielded ops a.tmps) = true := by simp [Region.wanted, hgd]
 rw [if_pos hw]
 exact wp_append_rd w s x t ho base e i z sz bytes ht hi hz hsize hby hzs hsz v n xs hs hown B A m c news hx hr h1 h63 hbytes hbase h
theorem alsz (w : World) (o : Obj) : w.heap.size ≤ (w.alloc o).heap.size := by simp
theorem up_limb (x c : Int) (s : Nat) (hs : s ≤ 63) (hx : 0 ≤ x ∧ x < 18446744073709551616) (hc : 0 ≤ c ∧ c < 2 ^ s) :
    ∃ lo hi : Int, bits .or .u64 (IntKind.u64.wrap (x * 2 ^ s)) c = lo ∧ x / 2 ^ (63 - s) / 2 = hi ∧ 0 ≤ lo ∧ lo < 18446744073709551616 ∧ 0 ≤ hi ∧ hi < 2 ^ s ∧ lo + 18446744073709551616 * hi = x * 2 ^ s + c := by
 obtain ⟨X, rfl⟩ := Int.eq_ofNat_of_zero_le hx.1
 obtain ⟨C, rfl⟩ := Int.eq_ofNat_of_zero_le hc.1
 have c2 : ((2 ^ s : Nat) : Int) = (2 : Int) ^ s := by rw [Int.natCast_pow]; rfl
 have c1 : ((X * 2 ^ s : Nat) : Int) = (X : Int) * 2 ^ s := by rw [Int.natCast_mul, c2]
 have c4 : ((X / 2 ^ (63 - s) / 2 : Nat) : Int) = (X : Int) / 2 ^ (63 - s) / 2 := by rw [Int.natCast_ediv, Int.natCast_ediv, Int.natCast_pow]; rfl
 rw [← c1, ← c4, ← c2]
 rw [← c2] at hc
 have p1 : 2 ^ (64 - s) * 2 ^ s = 18446744073709551616 := by rw [← Nat.pow_add, show 64 - s + s = 64 by omega]
 have p2 : 0 < 2 ^ s := Nat.pow_pos (by omega)
 have p3 : 0 < 2 ^ (64 - s) := Nat.pow_pos (by omega)
 have p4 : X / 2 ^ (63 - s) / 2 = X / 2 ^ (64 - s) := by rw [Nat.div_div_eq_div_mul, ← Nat.pow_succ, show (63 - s).succ = 64 - s by omega]
 have p5 : X * 2 ^ s % 18446744073709551616 = X % 2 ^ (64 - s) * 2 ^ s := by rw [← p1, Nat.mul_mod_mul_right]
 have p6 : IntKind.u64.wrap ((X * 2 ^ s : Nat) : Int) = ((X % 2 ^ (64 - s) * 2 ^ s : Nat) : Int) := by rw [IntKind.wrap_u64, ← p5]; omega
 have p7 : (X % 2 ^ (64 - s) + 1) * 2 ^ s ≤ 2 ^ (64 - s) * 2 ^ s := Nat.mul_le_mul_right _ (Nat.mod_lt _ p3)
 rw [p1, Nat.add_mul, Nat.one_mul] at p7
 have p8 := Nat.div_add_mod X (2 ^ (64 - s))
 have p9 : X * 2 ^ s = 18446744073709551616 * (X / 2 ^ (64 - s)) + X % 2 ^ (64 - s) * 2 ^ s := by
  rw [← p1]
  conv => lhs; rw [← p8]
  rw [Nat.add_mul, Nat.mul_right_comm]
 have p10 : X / 2 ^ (64 - s) < 2 ^ s := by rw [Nat.div_lt_iff_lt_mul p3, Nat.mul_comm, p1]; omega
 rw [p6, or_join _ C s (by omega) (by omega), p4]
 refine ⟨_, _, rfl, rfl, by omega, by omega, by omega, by omega, by omega⟩
theorem down_limb (x y : Int) (k : Nat) (hk : 1 ≤ k) (hk2 : k ≤ 63) (hx : 0 ≤ x ∧ x < 18446744073709551616) (hy : 0 ≤ y ∧ y < 18446744073709551616) :
    ∃ o : Int, bits .or .u64 (x / 2 ^ k) (IntKind.u64.wrap (y * 2 ^ (64 - k))) = o ∧ 0 ≤ o ∧ o < 18446744073709551616 ∧ 2 ^ k * o.toNat + x.toNat % 2 ^ k = x.toNat + 18446744073709551616 * (y.toNat % 2 ^ k) := by
 obtain ⟨X, rfl⟩ := Int.eq_ofNat_of_zero_le hx.1
 obtain ⟨Y, rfl⟩ := Int.eq_ofNat_of_zero_le hy.1
 have c1 : ((Y * 2 ^ (64 - k) : Nat) : Int) = (Y : Int) * 2 ^ (64 - k) := by rw [Int.natCast_mul, Int.natCast_pow]; rfl
 have c4 : ((X / 2 ^ k : Nat) : Int) = (X : Int) / 2 ^ k := by rw [Int.natCast_ediv, Int.natCast_pow]; rfl
 rw [← c1, ← c4]
 have p1 : 2 ^ k * 2 ^ (64 - k) = 18446744073709551616 := by rw [← Nat.pow_add, show k + (64 - k) = 64 by omega]
 have p2 : 0 < 2 ^ k := Nat.pow_pos (by omega)
 have p5 : Y * 2 ^ (64 - k) % 18446744073709551616 = Y % 2 ^ k * 2 ^ (64 - k) := by rw [← p1, Nat.mul_mod_mul_right]
 have p6 : IntKind.u64.wrap ((Y * 2 ^ (64 - k) : Nat) : Int) = ((Y % 2 ^ k * 2 ^ (64 - k) : Nat) : Int) := by rw [IntKind.wrap_u64, ← p5]; omega
 have p7 : (Y % 2 ^ k + 1) * 2 ^ (64 - k) ≤ 2 ^ k * 2 ^ (64 - k) := Nat.mul_le_mul_right _ (Nat.mod_lt _ p2)
 rw [p1, Nat.add_mul, Nat.one_mul] at p7
 have p8 := Nat.div_add_mod X (2 ^ k)
 have p10 : X / 2 ^ k < 2 ^ (64 - k) := by rw [Nat.div_lt_iff_lt_mul p2, Nat.mul_comm, p1]; omega
 have p11 : bits .or .u64 ((X / 2 ^ k : Nat) : Int) ((Y % 2 ^ k * 2 ^ (64 - k) : Nat) : Int) = ((Y % 2 ^ k * 2 ^ (64 - k) + X / 2 ^ k : Nat) : Int) := by
  rw [bits_or_u64_nat _ _ (by omega) (by omega), Nat.or_comm, Nat.mul_comm (Y % 2 ^ k), ← Nat.two_pow_add_eq_or_of_lt p10]
 have p12 : 2 ^ k * (Y % 2 ^ k * 2 ^ (64 - k)) = 18446744073709551616 * (Y % 2 ^ k) := by rw [Nat.mul_left_comm, p1, Nat.mul_comm]
 have p13 : Y % 2 ^ k * 2 ^ (64 - k) + X / 2 ^ k < 18446744073709551616 := by omega
 rw [p6, p11]
 refine ⟨_, rfl, Int.natCast_nonneg _, by omega, ?_⟩
 simp only [Int.toNat_natCast]
 rw [Nat.mul_add, p12]
 omega
theorem limb_Shift_up (A : Option Addr) (c s : Nat) (N : Int) (hN : N = s) (l : List Int) (w : World) (h : RdI w .u64 A l) (hn : l.length ≤ c) (hb9 : l.length ≤ 1000000000) (hu : U64 l) (hs : s ≤ 63) :
    Calls Tryz.prog 278 #[.slice A l.length c, .int .i64 N] w fun e w' => ∃ v, e = .returned v ∧ OwnI w' w.heap.size 112 .u64 v (limbs (val l * 2 ^ s)) ∧ Below w.heap.size w w' := by
 subst hN
 obtain ⟨i0, hi, hz0, hz1, hz2⟩ := info_split Tryz.infU64
 have C1 := Hd.mk (limb_trim A c l w h hn (by omega))
 have R1 := Hd.mk h.trim
 have u1 : Hd (U64 (trimL l)) := ⟨by rw [trimL_take]; exact hu.take _⟩
 have v1 := Hd.mk (val_trim l)
 have hl1 := trimL_len l
 rw [← v1.out]
 clear v1 h hu
 generalize trimL l = x at *
 have hmk : ∀ W : World, (Instr.makeSlice 61 (.int .i64 0) (.int .i64 (↑x.length + 1))).run Tryz.prog W = .ok (.slice (some ⟨W.heap.size, 0, none⟩) 0 (x.length + 1)) (W.alloc (.cells (zer (x.length + 1)) 112)) := fun W => by
  have hr := run_make (P := Tryz.prog) W 61 112 i0 (.int .u64 0) Tryz.slU64 hi hz0 .i64 .i64 0 ((x.length : Int) + 1) (by omega) (by omega) (by rw [hz2]; omega) (by omega)
  have e1 : ((x.length : Int) + 1).toNat = x.length + 1 := by omega
  have e : madeCells (Value.int .u64 0).cells (x.length + 1) = zer (x.length + 1) := by
   apply Array.ext'
   show (madeCells #[Value.int .u64 0] (x.length + 1)).toList = _
   rw [toList_madeCells_one]
   simp [zer, ints]
  rw [e1, hz1, Nat.mul_one, e] at hr
  exact hr
 have hs3 : (s : Int) ≤ 63 := by omega
 have hs4 : min (s : Int) 1000 = s := by omega
 have hs5 : (s : Int) / 64 = 0 := by omega
 have hs6 : (s : Int) % 64 = s := by omega
 go_enter Tryz.func278, Tryz.ntmps278
 go_wp2_with fail
 refine C1.out.mono ?_
 rintro e w' ⟨rfl, rfl⟩
 go_wp2_with fail
 go_loopw [8, 9, 86] (fun v8 v9 v86 wr => ∃ (os : List Int) (i : Nat) (cy : Int), v9 = .int .u64 cy ∧ v86 = .int .i64 i ∧ i ≤ x.length ∧ Hd (os.length = i) ∧ Hd (U64 os) ∧ Hd (0 ≤ cy ∧ cy < 2 ^ s) ∧ Hd (OwnI wr w.heap.size 112 .u64 v8 os) ∧ Hd (Below w.heap.size w wr) ∧
  Hd (val os + 18446744073709551616 ^ i * cy.toNat = val (x.take i) * 2 ^ s)) (fun _ _ v _ => x.length - (intOf v).toNat)
 case atStart =>
  have pp : (0 : Int) < 2 ^ s := Int.pow_pos (by omega)
  exact ⟨[], 0, 0, rfl, rfl, by omega, ⟨rfl⟩, ⟨.nil⟩, ⟨by omega⟩, ⟨World.ownsRow_made w _ (x.length + 1) (Nat.le_refl _) (by unfold maxLen; omega) (by rw [zer_size]; omega)⟩, ⟨(Below.refl _ _).alloc (Nat.le_refl _) _⟩, ⟨by simp [val]⟩⟩
 case round =>
  obtain ⟨os, i, cy, rfl, rfl, hi2, hol, hou, hcy, hown, hbel, hval⟩ := hrel
  obtain ⟨A5, c5, rfl, hc5, hm5, hr5⟩ := hown.out.reads
  have HR5 := Hd.mk hr5
  clear hr5 hmk
  by_cases hlt : i < x.length
  ·have RX := Hd.mk (R1.out.up hbel.out)
   obtain ⟨ad, xi, rfl, _, hxi, hcell⟩ := RX.out.get hlt
   have hx0 := u1.out.at_ i
   rw [hxi.out] at hx0
   obtain ⟨lo, hi_, e1, e2, l0, l1, h0, h1, hsum⟩ := up_limb xi cy s hs hx0 hcy.out
   have HSUM := Hd.mk hsum
   have H01 := Hd.mk (And.intro h0 h1)
   clear hsum h0 h1
   have hmin : min s 64 = s := by omega
   have hmin2 : min (63 - s) 64 = 63 - s := by omega
   have g1 : os.length + 1 ≤ maxLen := by have := hol.out; unfold maxLen; omega
   have g2 : (os.length + 1) * 8 ≤ 140737488355328 := by have := hol.out; omega
   have g3 := hbel.out.size
   have G1 := Hd.mk g1
   have G2 := Hd.mk g2
   clear g1 g2
   have s0 : (0 : Int) ≤ s := by omega
   have s1 : (s : Int).tmod 64 = s := by rw [Int.tmod_eq_emod_of_nonneg s0]; omega
   have s2 : IntKind.i64.wrap (63 - (s : Int)) = 63 - s := by rw [IntKind.wrap_i64]; omega
   have s3 : (0 : Int) ≤ 63 - s := by omega
   have s4 : (63 - (s : Int)).toNat = 63 - s := by omega
   go_wp2_with fail
   go_region_law (first | (refine step_append_rd _ rfl _ _ 61 rfl w.heap.size 112 i0 (.int .u64 0) 1 8 Tryz.slU64 hi hz0 hz1 hz2 rfl (by decide) _ _ _ rfl (hown.out.al _).d1 _ _ 1 1 (ints .u64 [lo]) rfl (Rd.new_ wr #[.int .u64 lo] 112 1 1 rfl) (ints_one _ _) G1.out G2.out (Nat.le_trans g3 (alsz _ _)) ?_; intro v' w' ho hg _))
   have HO : Hd (OwnI w' w.heap.size 112 .u64 v' (os ++ [lo])) := ⟨by unfold OwnI; rw [ints_app, List.length_append]; exact ho⟩
   have HB : Hd (Below w.heap.size w w') := ⟨grown_below (hown.out.al _).d1 hg ((hbel.out.alloc g3 _).drew) (Nat.le_trans g3 (alsz _ _))⟩
   clear ho hg
   go_wp2_with fail
   go_roundw
   case measure => first | (simp [intOf]; done) | (simp [intOf]; omega)
   case rel =>
    refine ⟨os ++ [lo], i + 1, hi_, rfl, by go_num, by omega, ⟨by rw [List.length_append, hol.out]; rfl⟩, ⟨hou.out.app (U64.nil.cons l0 l1)⟩, H01, HO, HB, ⟨?_⟩⟩
    rw [val_snoc, hol.out, val_take_succ, hxi.out, Nat.pow_succ, Nat.add_mul, ← hval.out]
    have h01 := H01.out.1
    have e5 : lo.toNat + 18446744073709551616 * hi_.toNat = xi.toNat * 2 ^ s + cy.toNat := by
     have h1 := HSUM.out
     obtain ⟨X, rfl⟩ := Int.eq_ofNat_of_zero_le hx0.1
     have c1 : ((X * 2 ^ s : Nat) : Int) = (X : Int) * 2 ^ s := by rw [Int.natCast_mul, Int.natCast_pow]; rfl
     rw [← c1] at h1
     have := hcy.out.1
     rw [Int.toNat_natCast]
     omega
    have e6 := congrArg (18446744073709551616 ^ i * ·) e5
    simp only [Nat.mul_add] at e6
    rw [Nat.mul_assoc, Nat.mul_assoc]
    omega
  ·have hie : i = x.length := by omega
   have hown2 := Hd.mk (hown.out.al (.cells #[.int .u64 cy] 112))
   have hHB := hbel.out.size
   have hol2 : os.length ≤ 1000000000 := by have := hol.out; omega
   go_wp2_with (at_builtin; refine wpList_append_rd _ rfl _ _ 61 rfl w.heap.size 112 i0 (.int .u64 0) 1 8 Tryz.slU64 hi hz0 hz1 hz2 rfl (by decide) _ _ _ rfl hown2.out _ _ 1 1 (ints .u64 [cy]) rfl (Rd.new_ wr #[.int .u64 cy] 112 1 1 rfl) (ints_one _ _) ?c1 ?c2 ?c3 ?_)
   case c1 => unfold maxLen; omega
   case c2 => omega
   case c3 => simp; omega
   intro v' w' ho hg _
   obtain ⟨z, HZ⟩ : ∃ z, Hd (z = os ++ [cy]) := ⟨_, ⟨rfl⟩⟩
   have HO : Hd (OwnI w' w.heap.size 112 .u64 v' z) := ⟨by rw [HZ.out]; unfold OwnI; rw [ints_app, List.length_append]; exact ho⟩
   have HB : Hd (Below w.heap.size w w') := ⟨grown_below hown2.out hg (hbel.out.alloc hHB _) (by simp; omega)⟩
   clear ho hg
   have pw : (2 : Int) ^ s ≤ 9223372036854775808 := by
    have : 2 ^ s ≤ 2 ^ 63 := Nat.pow_le_pow_right (by omega) hs
    have c2 : ((2 ^ s : Nat) : Int) = (2 : Int) ^ s := by rw [Int.natCast_pow]; rfl
    rw [← c2]; omega
   have hou2 : Hd (U64 z) := ⟨by rw [HZ.out]; exact hou.out.app (U64.nil.cons hcy.out.1 (by have := hcy.out.2; omega))⟩
   have hzl : z.length ≤ 1000000001 := by rw [HZ.out]; simp; omega
   obtain ⟨A7, c7, hv7, hc7, hm7, hr7⟩ := HO.out.reads
   subst hv7
   have HR7 := Hd.mk hr7
   clear hr7 hm7 pw
   have tz := trimL_len z
   have C2 := Hd.mk (limb_trim A7 c7 z w' HR7.out hc7 (by omega))
   go_wp2_with fail
   refine C2.out.mono ?_
   rintro e w2 ⟨rfl, rfl⟩
   go_wp2_with fail
   refine (clone_u64 A7 c7 (trimL z) w' HR7.out.trim (by omega) (by omega)).mono ?_
   rintro e w2 ⟨v, rfl, ho, hb⟩
   have HO2 := Hd.mk ho
   have HB2 := Hd.mk hb
   clear ho hb
   go_wp2_with fail
   go_ret
   refine ⟨_, rfl, ?_, HB.out.trans (HB2.out.mono HB.out.size)⟩
   have h5 := hval.out
   rw [hie, List.take_length] at h5
   have h6 : val z = val x * 2 ^ s := by rw [HZ.out, val_snoc, hol.out, hie]; exact h5
   rw [← h6, ← trim_limbs hou2.out]
   exact HO2.out.low HB.out.size
theorem down_val {x os : List Int} {s i : Nat} {xi y o : Int} (hil : i < os.length) (hil2 : i < x.length) (hxi : x.getD i 0 = xi) (hy : x.getD (i + 1) 0 = y) (hsum : 2 ^ s * o.toNat + xi.toNat % 2 ^ s = xi.toNat + 18446744073709551616 * (y.toNat % 2 ^ s)) (hval : 2 ^ s * val (os.take i) + (x.getD 0 0).toNat % 2 ^ s = val (x.take i) + 18446744073709551616 ^ i * ((x.getD i 0).toNat % 2 ^ s)) :
    2 ^ s * val ((os.set i o).take (i + 1)) + (x.getD 0 0).toNat % 2 ^ s = val (x.take (i + 1)) + 18446744073709551616 ^ (i + 1) * ((x.getD (i + 1) 0).toNat % 2 ^ s) := by
 have e3 : (os.set i o).take (i + 1) = os.take i ++ [o] := by
  rw [take_snoc (by rw [List.length_set]; exact hil), List.take_set_of_le (Nat.le_refl _)]
  rw [List.getD_eq_getElem?_getD, List.getElem?_set_self hil]; rfl
 rw [e3, val_snoc, List.length_take, Nat.min_eq_left (by omega), val_take_succ, hxi, Nat.pow_succ, hy]
 rw [hxi] at hval
 clear e3 hxi hy
 generalize (18446744073709551616 : Nat) ^ i = P at *
 generalize (x.getD 0 0).toNat % 2 ^ s = m0 at *
 generalize xi.toNat % 2 ^ s = m1 at *
 generalize y.toNat % 2 ^ s = m2 at *
 generalize (2 : Nat) ^ s = Q at *
 generalize val (os.take i) = V at *
 generalize val (x.take i) = V2 at *
 have e6 := congrArg (P * ·) hsum
 simp only [Nat.mul_add] at e6
 rw [Nat.mul_add, Nat.mul_left_comm Q, Nat.mul_assoc]
 omega
theorem limb_Shift_down (A : Option Addr) (c s : Nat) (N : Int) (hN : N = -(s : Int)) (l : List Int) (w : World) (h : RdI w .u64 A l) (hn : l.length ≤ c) (hb9 : l.length ≤ 1000000000) (hu : U64 l) (hs1 : 1 ≤ s) (hs : s ≤ 63) :
    Calls Tryz.prog 278 #[.slice A l.length c, .int .i64 N] w fun e w' => ∃ v, e = .returned v ∧ OwnI w' w.heap.size 112 .u64 v (limbs (val l / 2 ^ s)) ∧ Below w.heap.size w w' := by
 have C1 := Hd.mk (limb_trim A c l w h hn (by omega))
 have R1 := Hd.mk h.trim
 have u1 : Hd (U64 (trimL l)) := ⟨by rw [trimL_take]; exact hu.take _⟩
 have v1 := Hd.mk (val_trim l)
 have hl1 := trimL_len l
 rw [← v1.out]
 clear v1 h hu
 generalize trimL l = x at *
 have n0 : N < 0 := by omega
 have n1 : max N (-100001) = N := by omega
 have n2 : (-N) = s := by omega
 have n3 : (s : Int) / 64 = 0 := by omega
 have n4 : (s : Int) % 64 = s := by omega
 have s3 : (s : Int) ≤ 63 := by omega
 have s0 : (0 : Int) < s := by omega
 have n5 : decide ((100000 : Int) < (s : Int)) = false := decide_eq_false (by omega)
 clear hN
 go_enter Tryz.func278, Tryz.ntmps278
 go_wp2_with fail
 refine C1.out.mono ?_
 rintro e w' ⟨rfl, rfl⟩
 by_cases hx : x.length = 0
 ·have hxn : x = [] := List.eq_nil_of_length_eq_zero hx
  subst hxn
  clear hx C1 hl1
  go_wp2_with fail
  go_ret
  refine ⟨_, rfl, ?_, .refl _ _⟩
  rw [val, Nat.zero_div, limbs_zero]
  exact OwnI.nil _ _ _ _
 ·have hx1 : 0 < x.length := by omega
  have hc0 : ¬ c = 0 := by omega
  go_wp2_with fail
  refine (clone_u64 A c x w R1.out (by omega) (by omega)).mono ?_
  rintro e w1 ⟨v, rfl, ho, hb⟩
  have HO := Hd.mk ho
  have HB := Hd.mk hb
  clear ho hb
  obtain ⟨A5, c5, rfl, hc5, hm5, _⟩ := HO.out.reads
  clear hx
  go_wp2_with fail
  simp only [n4]
  go_loopw [37] (fun v37 wr => ∃ (os : List Int) (i : Nat), v37 = .int .i64 i ∧ i ≤ x.length ∧ Hd (os.length = x.length) ∧ Hd (U64 os) ∧ Hd (OwnI wr w.heap.size 112 .u64 (.slice A5 x.length c5) os) ∧ Hd (Below w.heap.size w wr) ∧ Hd (os.drop i = x.drop i) ∧
   Hd (2 ^ s * val (os.take i) + (x.getD 0 0).toNat % 2 ^ s = val (x.take i) + 18446744073709551616 ^ i * ((x.getD i 0).toNat % 2 ^ s))) (fun v _ => x.length - (intOf v).toNat)
  case atStart => exact ⟨x, 0, rfl, by omega, ⟨rfl⟩, u1, HO, HB, ⟨rfl⟩, ⟨by simp [val]⟩⟩
  case round =>
   obtain ⟨os, i, rfl, hi2, hol, hou, hown, hbel, hdr, hval⟩ := hrel
   by_cases hlt : i < x.length
   ·have hil : i < os.length := by have := hol.out; omega
    obtain ⟨g, c6, xi, hv, hg1, hg2, hxi, hcell, hfro, hset⟩ := hown.out.cell hil
    injection hv with hv1 hv2 hv3
    subst hv1 hv3
    have HS := Hd.mk hset
    have hxi2 : Hd (x.getD i 0 = xi) := ⟨by
     have h1 := congrArg (fun t => t.getD 0 0) hdr.out
     simp only [List.getD_eq_getElem?_getD, List.getElem?_drop, Nat.add_zero] at h1
     rw [List.getD_eq_getElem?_getD, ← h1, ← List.getD_eq_getElem?_getD]; exact hxi.out⟩
    have hx0 := u1.out.at_ i
    rw [hxi2.out] at hx0
    have hmin : min s 64 = s := by omega
    have hmin2 : min (64 - s) 64 = 64 - s := by omega
    clear hset hv2
    have hcell' := hcell
    clear hcell'
    by_cases hlt2 : i + 1 < x.length
    ·have hb1 : ((i : Int) + 1 < x.length) := by omega
     obtain ⟨g', c', y, hv, _, _, hy, hcell2, _, _⟩ := hown.out.cell (i := i + 1) (by have := hol.out; omega)
     injection hv with hv1 hv2 hv3
     injection hv1 with hv1
     injection hv1 with hv1
     subst hv1 hv3
     clear hv2
     have hy2 : Hd (x.getD (i + 1) 0 = y) := ⟨by
      have h1 := congrArg (fun t => t.getD 1 0) hdr.out
      simp only [List.getD_eq_getElem?_getD, List.getElem?_drop] at h1
      rw [List.getD_eq_getElem?_getD, ← h1, ← List.getD_eq_getElem?_getD]; exact hy.out⟩
     have hy0 := u1.out.at_ (i + 1)
     rw [hy2.out] at hy0
     obtain ⟨o, e1, o0, o1, hsum⟩ := down_limb xi y s hs1 hs hx0 hy0
     have HSUM := Hd.mk hsum
     clear hsum
     have s5 : IntKind.i64.wrap (64 - (s : Int)) = 64 - s := by rw [IntKind.wrap_i64]; omega
     have s6 : (0 : Int) ≤ 64 - s := by omega
     have s7 : (64 - (s : Int)).toNat = 64 - s := by omega
     have s8 : (0 : Int) ≤ i := by omega
     have s9 : (i : Int) < x.length := by omega
     have s10 : IntKind.i64.wrap ((i : Int) + 1) = i + 1 := by rw [IntKind.wrap_i64]; omega
     have s11 : ((i : Int) + 1).toNat = i + 1 := by omega
     have s12 : (0 : Int) ≤ (i : Int) + 1 := by omega
     go_wp2_with fail
     go_region
     go_wp2_with fail
     go_roundw
     case measure => first | (simp [intOf]; done) | (simp [intOf]; omega)
     case rel =>
      refine ⟨os.set i o, i + 1, by go_num, by omega, ⟨by rw [List.length_set]; exact hol.out⟩, ⟨hou.out.set i o0 o1⟩, ⟨?_⟩, ⟨((hbel.out.setCell hg1 _).setCell hg1 _).drew⟩, ⟨?_⟩, ⟨?_⟩⟩
      ·have h1 := OwnI.put (OwnI.put (hown.out) hil (xi / 2 ^ s)) (i := i) (by rw [List.length_set]; exact hil) o
       rw [List.set_set] at h1
       exact h1.d1
      ·rw [List.drop_set_of_lt (by omega)]
       have := congrArg (List.drop 1) hdr.out
       rw [List.drop_drop, List.drop_drop] at this
       exact this
      ·exact down_val hil hlt hxi2.out hy2.out HSUM.out hval.out
    ·have hb1 : ¬ ((i : Int) + 1 < x.length) := by omega
     have hq0 : 0 ≤ xi / 2 ^ s := Int.ediv_nonneg hx0.1 (Int.le_of_lt (Int.pow_pos (by omega)))
     have hq1 : xi / 2 ^ s < 18446744073709551616 := by
      have := Int.ediv_le_self (2 ^ s : Int) hx0.1
      omega
     have HSUM : Hd (2 ^ s * (xi / 2 ^ s).toNat + xi.toNat % 2 ^ s = xi.toNat + 18446744073709551616 * ((0 : Int).toNat % 2 ^ s)) := ⟨by
      obtain ⟨X, rfl⟩ := Int.eq_ofNat_of_zero_le hx0.1
      have c4 : ((X / 2 ^ s : Nat) : Int) = (X : Int) / 2 ^ s := by rw [Int.natCast_ediv, Int.natCast_pow]; rfl
      rw [← c4, Int.toNat_natCast, Int.toNat_natCast, Nat.div_add_mod]; simp⟩
     go_wp2_with fail
     go_roundw
     case measure => first | (simp [intOf]; done) | (simp [intOf]; omega)
     case rel =>
      refine ⟨os.set i (xi / 2 ^ s), i + 1, by go_num, by omega, ⟨by rw [List.length_set]; exact hol.out⟩, ⟨hou.out.set i hq0 hq1⟩, ⟨?_⟩, ⟨hbel.out.setCell hg1 _⟩, ⟨?_⟩, ⟨?_⟩⟩
      ·exact OwnI.put hown.out hil _
      ·rw [List.drop_set_of_lt (by omega)]
       have := congrArg (List.drop 1) hdr.out
       rw [List.drop_drop, List.drop_drop] at this
       exact this
      ·exact down_val hil hlt hxi2.out (getD_out (show x.length ≤ i + 1 by omega)) HSUM.out hval.out
   ·have hie : i = x.length := by omega
    obtain ⟨A6, c6, hv, hc6, _, hr6⟩ := hown.out.reads
    injection hv with hv1 hv2 hv3
    subst hv1 hv3
    have HR := Hd.mk hr6
    have CC := Hd.mk (limb_trim A5 c5 os wr HR.out hc6 (by have := hol.out; omega))
    rw [hol.out] at CC
    clear hv2 hr6 hc6
    go_wp2_with fail
    refine CC.out.mono ?_
    rintro e w3 ⟨rfl, rfl⟩
    go_wp2_with fail
    go_ret
    refine ⟨_, rfl, ?_, hbel.out⟩
    have h5 := hval.out
    rw [hie, getD_out (Nat.le_refl _), List.take_length, List.take_of_length_le (by rw [hol.out]; exact Nat.le_refl _)] at h5
    have h6 : val x / 2 ^ s = val os := by
     have p2 : 0 < 2 ^ s := Nat.pow_pos (by omega)
     have e8 : val x = 2 ^ s * val os + (x.getD 0 0).toNat % 2 ^ s := by
      simp at h5; simp; omega
     rw [e8, Nat.mul_add_div p2, Nat.div_eq_of_lt (Nat.mod_lt _ p2), Nat.add_zero]
    rw [h6, ← trim_limbs hou.out]
    have h7 := hown.out
    rw [← hol.out] at h7
    have h8 := h7.pre (trimL_len os)
    rw [← trimL_take] at h8
    exact h8
instance (l : List Int) : Decidable (Trim l) := by unfold Trim; infer_instance
def natMay (l : List Int) : Bool := decide (l.length ≤ 8 ∧ Trim l)
theorem natMay_len {l : List Int} (h : natMay l = true) : l.length ≤ 8 := (of_decide_eq_true h).1
theorem natMay_trim {l : List Int} (h : natMay l = true) : Trim l := (of_decide_eq_true h).2
theorem natMay_limbs {l : List Int} (h : natMay l = true) (hu : U64 l) : limbs (val l) = l := limbs_of hu (natMay_trim h)
theorem limbs_may {n : Nat} (h : (limbs n).length ≤ 8) : natMay (limbs n) = true := decide_eq_true ⟨h, limbs_trim n⟩
theorem nat_May (A : Option Addr) (c : Nat) (l : List Int) (w : World) (h : RdI w .u64 A l) (hn : l.length ≤ c) (hb9 : l.length ≤ 1000000000) :
    Calls Tryz.prog 270 #[.slice A l.length c] w fun e w' => e = .returned (.bool (natMay l)) ∧ w = w' := by
 by_cases h8 : l.length ≤ 8
 ·rcases Nat.eq_zero_or_pos l.length with h0 | h0
  ·have hnil := List.eq_nil_of_length_eq_zero h0
   subst hnil
   clear h8 hb9 h0
   go_enter Tryz.func270, Tryz.ntmps270
   go_wp2_with fail
   go_ret
   exact ⟨retBool (by decide), rfl⟩
  ·obtain ⟨ad, x, rfl, _, hx, hc⟩ := h.get (i := l.length - 1) (by omega)
   have e1 : ((l.length : Int) == 0) = false := by rw [beq_eq_false_iff_ne]; omega
   have e2 : decide ((l.length : Int) ≤ 8) = true := decide_eq_true (by omega)
   have e3 : ((l.length : Int) - 1).toNat = l.length - 1 := by omega
   by_cases hz : x = 0
   ·have hm : natMay l = false := decide_eq_false (fun hh => by
      rcases hh.2 with h1 | h1
      ·rw [h1] at h0; exact absurd h0 (by decide)
      ·exact h1 (hx.out.trans hz))
    have HM := Hd.mk hm
    subst hz
    clear hm
    go_enter Tryz.func270, Tryz.ntmps270
    go_wp2_with fail
    go_ret
    exact ⟨retBool HM.out.symm, rfl⟩
   ·have hm : natMay l = true := decide_eq_true ⟨h8, .inr (by rw [hx.out]; exact hz)⟩
    have HM := Hd.mk hm
    have hz2 : (x != 0) = true := by rw [bne_iff_ne]; exact hz
    clear hm
    go_enter Tryz.func270, Tryz.ntmps270
    go_wp2_with fail
    go_ret
    exact ⟨retBool HM.out.symm, rfl⟩
 ·have hm : natMay l = false := decide_eq_false (fun hh => h8 hh.1)
  have HM := Hd.mk hm
  have e2 : decide ((l.length : Int) ≤ 8) = false := decide_eq_false (by omega)
  clear hm
  go_enter Tryz.func270, Tryz.ntmps270
  go_wp2_with fail
  go_ret
  exact ⟨retBool HM.out.symm, rfl⟩
theorem lit1_own (w : World) (x : Int) (base : Nat) (hb : base ≤ w.heap.size) : OwnI (w.alloc (.cells #[.int .u64 x] 112)) base 112 .u64 (.slice (some ⟨w.heap.size, 0, none⟩) 1 1) [x] :=
 World.ownsRow_lit (e := 112) (size := 1) w #[.int .u64 x] 1 hb (by unfold maxLen; omega) rfl
theorem limbs_one {x : Int} (h0 : 0 < x) (h1 : x < 18446744073709551616) : limbs x.toNat = [x] := by
 rw [limbs_pos (by omega), Nat.div_eq_of_lt (by omega), limbs_zero, Nat.mod_eq_of_lt (by omega)]
 congr 1; omega
theorem nat_Of (x : Int) (w : World) (h0 : 0 ≤ x) (h1 : x < 18446744073709551616) :
    Calls Tryz.prog 175 #[.int .u64 x] w fun e w' => ∃ v, e = .returned v ∧ OwnI w' w.heap.size 112 .u64 v (limbs x.toNat) ∧ Below w.heap.size w w' := by
 by_cases hz : x = 0
 ·subst hz
  clear h0 h1
  go_enter Tryz.func175, Tryz.ntmps175
  go_wp2_with fail
  go_ret
  exact ⟨_, rfl, by rw [show (0 : Int).toNat = 0 from rfl, limbs_zero]; exact OwnI.nil _ _ _ _, .refl _ _⟩
 ·have hz2 : (x == 0) = false := by rw [beq_eq_false_iff_ne]; exact hz
  go_enter Tryz.func175, Tryz.ntmps175
  go_wp2_with fail
  go_ret
  exact ⟨_, rfl, by rw [limbs_one (by omega) h1]; exact lit1_own _ _ _ (Nat.le_refl _), (Below.refl _ _).alloc (Nat.le_refl _) _⟩
theorem nat_Cmp (A B : Option Addr) (c d : Nat) (l m : List Int) (w : World) (h : RdI w .u64 A l) (hn : l.length ≤ c) (hb9 : l.length ≤ 1000000000)
    (h' : RdI w .u64 B m) (hn' : m.length ≤ d) (hb9' : m.length ≤ 1000000000) (hu : U64 l) (hu' : U64 m) :
    Calls Tryz.prog 226 #[.slice A l.length c, .slice B m.length d] w fun e w' => e = .returned (.int .i64 (cmpN (val l) (val m))) ∧ Dr w w' := by
 go_enter Tryz.func226, Tryz.ntmps226
 go_wp2_with fail
 refine (limb_Cmp A B c d l m w h hn hb9 h' hn' hb9' hu hu').mono ?_
 rintro e w' ⟨rfl, hd⟩
 have HD := Hd.mk hd
 clear hd
 go_wp2_with fail
 go_ret
 exact ⟨rfl, HD.out⟩
theorem small_step {l os : List Int} {i n r : Nat} (hol : os.length = l.length) (hi : i < l.length) (X : Int) (hX : X = l.getD i 0) (hX0 : 0 ≤ X) (D : Int)
    (hD : D = ((r : Int) * 18446744073709551616 + X) / n) (R : Int) (hR : R = ((r : Int) * 18446744073709551616 + X) % n)
    (hval : val (os.drop (i + 1)) * n + r = val (l.drop (i + 1))) :
    val ((os.set i D).drop i) * n + R.toNat = val (l.drop i) := by
 obtain ⟨x, rfl⟩ := Int.eq_ofNat_of_zero_le hX0
 have hD2 : D = ((r * 18446744073709551616 + x) / n : Nat) := by rw [hD]; simp
 have hR2 : R = ((r * 18446744073709551616 + x) % n : Nat) := by rw [hR]; simp
 rw [drop_at (l := os.set i D) (by rw [List.length_set]; omega), drop_at hi, ← hX, val, val]
 have e1 : (os.set i D).getD i 0 = D := by rw [List.getD_eq_getElem?_getD, List.getElem?_set_self (by omega)]; rfl
 rw [e1, List.drop_set_of_lt (by omega), hD2, hR2, Int.toNat_natCast, Int.toNat_natCast, Int.toNat_natCast, ← hval]
 have := Nat.div_add_mod (r * 18446744073709551616 + x) n
 generalize (r * 18446744073709551616 + x) / n = d at *
 generalize (r * 18446744073709551616 + x) % n = m at *
 generalize val (os.drop (i + 1)) = V at *
 rw [Nat.add_mul, Nat.mul_add, Nat.mul_assoc]
 have := Nat.mul_comm d n
 omega
theorem quot_Small (A : Option Addr) (c : Nat) (l : List Int) (N : Int) (n : Nat) (hN : N = n) (w : World) (h : RdI w .u64 A l) (hn : l.length ≤ c) (hu : U64 l) (hm : natMay l = true) (hn1 : 1 ≤ n) (hn2 : n < 18446744073709551616) :
    Calls Tryz.prog 276 #[.slice A l.length c, .int .u64 N] w fun e w' => ∃ v, e = .returned (.tuple #[v, .int .u64 (val l % n : Nat), .int .i64 0]) ∧ OwnI w' w.heap.size 112 .u64 v (limbs (val l / n)) ∧ Below w.heap.size w w' := by
 have hl8 := natMay_len hm
 have hz : (N == 0) = false := by rw [beq_eq_false_iff_ne]; omega
 have C1 := Hd.mk (nat_May A c l w h hn (by omega))
 rw [hm] at C1
 have R := Hd.mk h
 have HU := Hd.mk hu
 have hmk := fun W => mkU64 l.length (l.length : Int) rfl (by omega) W
 have hown0 := Hd.mk (mkU64_own l.length (by omega) w w.heap.size (Nat.le_refl _))
 have HM := Hd.mk hm
 have HN := Hd.mk hN
 clear h hm hN hu
 go_enter Tryz.func276, Tryz.ntmps276
 go_wp2_with fail
 refine C1.out.mono ?_
 rintro e w' ⟨rfl, rfl⟩
 clear C1
 go_wp2_with fail
 go_loopw [8, 9] (fun v8 v9 wr => ∃ (os : List Int) (k r : Nat), v8 = .int .u64 r ∧ v9 = .int .i64 ((k : Int) - 1) ∧ k ≤ l.length ∧ Hd (os.length = l.length) ∧ Hd (U64 os) ∧ r < n ∧
  Hd (OwnI wr w.heap.size 112 .u64 (.slice (some ⟨w.heap.size, 0, none⟩) l.length l.length) os) ∧ Hd (Below w.heap.size w wr) ∧ Hd (val (os.drop k) * n + r = val (l.drop k))) (fun _ v _ => (intOf v + 1).toNat)
 case atStart => exact ⟨List.replicate l.length 0, l.length, 0, rfl, rfl, Nat.le_refl _, ⟨by simp⟩, ⟨zeros_u64 _⟩, by omega, hown0, ⟨(Below.refl _ _).alloc (Nat.le_refl _) _⟩, ⟨by rw [List.drop_eq_nil_of_le (by simp), List.drop_eq_nil_of_le (Nat.le_refl _)]; simp [val]⟩⟩
 case round =>
  obtain ⟨os, k, r, rfl, rfl, hk, hol, hou, hr, hown, hbel, hval⟩ := hrel
  cases k with
  | zero =>
    obtain ⟨A6, c6, hv, hc6, _, hr6⟩ := hown.out.reads
    injection hv with hv1 hv2 hv3
    subst hv1 hv3
    have HR := Hd.mk hr6
    have CC := Hd.mk (limb_Trim (some ⟨w.heap.size, 0, none⟩) l.length os wr HR.out (by have := hol.out; omega) (by have := hol.out; omega))
    rw [hol.out] at CC
    clear hv2 hr6 hc6
    go_wp2_with fail
    refine CC.out.mono ?_
    rintro e w3 ⟨v, rfl, ho3, hb3⟩
    have HO := Hd.mk ho3
    have HB := Hd.mk hb3
    clear ho3 hb3
    go_wp2_with fail
    go_ret3
    have e1 := hval.out
    simp only [List.drop_zero] at e1
    have e2 : val l / n = val os := by
     rw [← e1, Nat.mul_comm, Nat.mul_add_div (by omega), Nat.div_eq_of_lt hr, Nat.add_zero]
    have e3 : val l % n = r := by
     rw [← e1, Nat.mul_comm, Nat.mul_add_mod, Nat.mod_eq_of_lt hr]
    refine ⟨_, by rw [e3]; rfl, ?_, hbel.out.trans (HB.out.mono hbel.out.size)⟩
    rw [e2, ← trim_limbs hou.out]
    exact HO.out.low hbel.out.size
  | succ i =>
    have e1 : ((i + 1 : Nat) : Int) - 1 = i := by omega
    simp only [e1]
    obtain ⟨ad, x, rfl, _, hx, hc⟩ := (R.out.up hbel.out).get (i := i) (by omega)
    have hx0 := HU.out.at_ i
    rw [hx.out] at hx0
    obtain ⟨g, c6, z, hv6, hg1, hg2, hz6, hcell6, hfro, hset⟩ := hown.out.cell (i := i) (by have := hol.out; omega)
    injection hv6 with hv6a hv6b hv6c
    injection hv6a with hv6a
    injection hv6a with hv6a
    subst hv6a hv6c
    have HS := Hd.mk hset
    clear hset hv6b
    obtain ⟨D, hD⟩ : ∃ D, ((r : Int) * 18446744073709551616 + x) / N = D := ⟨_, rfl⟩
    obtain ⟨M, hM⟩ : ∃ M, ((r : Int) * 18446744073709551616 + x) % N = M := ⟨_, rfl⟩
    have DV := div64 r x N wr (by omega) (by have := HN.out; omega) (by have := HN.out; omega) hx0.1 hx0.2
    rw [hD, hM] at DV
    have DV := Hd.mk DV
    have hN1 : 1 ≤ N := by have := HN.out; omega
    have D0 : 0 ≤ D := by rw [← hD]; exact Int.ediv_nonneg (by omega) (by omega)
    have D1 : D < 18446744073709551616 := by
     rw [← hD]
     apply Int.ediv_lt_of_lt_mul (by omega)
     have := HN.out
     have h1 : (r : Int) + 1 ≤ N := by omega
     have := Int.mul_le_mul_of_nonneg_left h1 (show (0 : Int) ≤ 18446744073709551616 by omega)
     omega
    have M0 : 0 ≤ M := by rw [← hM]; exact Int.emod_nonneg _ (by omega)
    have M1 : M < N := by rw [← hM]; exact Int.emod_lt_of_pos _ (by omega)
    have ST := Hd.mk (small_step (os := os) (n := n) (r := r) hol.out (by omega : i < l.length) x hx.out.symm hx0.1 D (by rw [← hD, HN.out]) M (by rw [← hM, HN.out]) hval.out)
    clear hD hM
    go_wp2_with fail
    refine DV.out.mono ?_
    rintro e w' ⟨rfl, ⟨nq, rfl⟩⟩
    go_wp2_with fail
    go_roundw
    case measure => first | (simp [intOf]; done) | (simp [intOf]; omega)
    case rel =>
     refine ⟨os.set i D, i, M.toNat, by rw [Int.toNat_of_nonneg M0], rfl, by omega, ⟨by rw [List.length_set]; exact hol.out⟩, ⟨hou.out.set i D0 D1⟩, by have := HN.out; omega, ⟨?_⟩, ⟨?_⟩, ST⟩
     ·have := OwnI.put (hown.out.dn nq) (i := i) (by have := hol.out; omega) D
      exact this
     ·exact (Below.dn hbel.out nq).setCell (Nat.le_refl _) _
end Go.Proofs.YtgjkgkgieeoalaaGreat
