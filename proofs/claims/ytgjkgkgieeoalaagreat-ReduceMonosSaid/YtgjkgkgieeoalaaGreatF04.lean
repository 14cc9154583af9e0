/- Parts of the proof, joined: each theorem says what it shows. -/
import Derived.Test.YtgjkgkgieeoalaaGreatF01
import Derived.Test.YtgjkgkgieeoalaaGreatF02
import Derived.Test.YtgjkgkgieeoalaaGreatF03
import Derived.Deep.RegionLaw
import Derived.Lib.AppendZeros
import Derived.Laws.CopyRow
import Derived.Laws.CopyOwn
set_option linter.unusedVariables false
set_option linter.unusedSimpArgs false
set_option maxHeartbeats 24000000
set_option maxRecDepth 100000
namespace Go.Proofs.YtgjkgkgieeoalaaGreat
open Go.RowKit
def zer (n : Nat) : Array Value := (ints .u64 (List.replicate n 0)).toArray
theorem zer_size (n : Nat) : (zer n).size = n := by simp [zer, ints]
theorem mkU64 (n : Nat) (N : Int) (hN : N = n) (h9 : n ≤ 2000000000) (w : World) :
    (Instr.makeSlice 61 (.int .i64 N) (.int .i64 N)).run Tryz.prog w = .ok (.slice (some ⟨w.heap.size, 0, none⟩) n n) (w.alloc (.cells (zer n) 112)) := by
 subst hN
 obtain ⟨i0, hi, hz0, hz1, hz2⟩ := info_split Tryz.infU64
 have hr := run_make (P := Tryz.prog) w 61 112 i0 (.int .u64 0) Tryz.slU64 hi hz0 .i64 .i64 n n (by omega) (Int.le_refl _) (by rw [hz2]; omega) (by omega)
 simp only [Int.toNat_natCast, hz1, Nat.mul_one] at hr
 have e : madeCells (Value.int .u64 0).cells n = zer n := by
  apply Array.ext'
  show (madeCells #[Value.int .u64 0] n).toList = _
  rw [toList_madeCells_one]
  simp [zer, ints]
 rw [hr, e]
theorem mkU64_own (n : Nat) (h9 : n ≤ 2000000000) (w : World) (base : Nat) (hb : base ≤ w.heap.size) : OwnI (w.alloc (.cells (zer n) 112)) base 112 .u64 (.slice (some ⟨w.heap.size, 0, none⟩) n n) (List.replicate n 0) := by
 have := World.ownsRow_lit (e := 112) (size := 1) w (zer n) n hb (by unfold maxLen; omega) (by rw [zer_size]; omega)
 unfold OwnI
 rw [List.length_replicate]
 simpa [zer] using this
theorem zeros_u64 (n : Nat) : U64 (List.replicate n 0) := fun x hx => by rw [List.eq_of_mem_replicate hx]; omega
theorem zeros_val (n : Nat) : val (List.replicate n 0) = 0 := by
 induction n with
 | zero => rfl
 | succ n ih => rw [List.replicate_succ, val, ih]; rfl
theorem own_below {w w' : World} {base : Nat} {e : TypeId} {sz n : Nat} {v : Value} {xs : List Value} (h : w.ownsRow base e sz v n xs) (hb : Below w.heap.size w w') : w'.ownsRow base e sz v n xs := by
 refine ⟨h.1, ?_⟩
 rcases h.2 with h1 | ⟨g, cap, cur, e1, h2, h3, r⟩
 ·exact .inl h1
 ·refine .inr ⟨g, cap, cur, e1, h2, ?_, r⟩
  rcases Nat.lt_or_ge g w.heap.size with hg | hg
  ·exact (hb.block g hg).trans h3
  ·rw [Array.getElem?_eq_none hg] at h3; cases h3
theorem OwnI.grown {w w' : World} {base : Nat} {e : TypeId} {k : IntKind} {v : Value} {l : List Int} (h : OwnI w base e k v l) {row : Option Nat} (hg : w.grownBy w' row) (hne : v.ownBlock = none ∨ v.ownBlock ≠ row) : OwnI w' base e k v l := World.ownsRow.kept h hg hne
def RowsOwn (w : World) (base : Nat) (v : Value) (rs : List (List Int)) : Prop :=
 ∃ cs, w.ownsRow base 61 1 v rs.length cs ∧ ∀ (j : Nat) (r : List Int), rs[j]? = some r → ∃ u, cs[j]? = some u ∧ OwnI w base 112 .u64 u r
theorem RowsOwn.nil (w : World) (base : Nat) : RowsOwn w base (.slice none 0 0) [] := ⟨[], World.ownsRow_nil w base _ 1, fun j r h => by simp at h⟩
theorem RowsOwn.reads {w : World} {base : Nat} {v : Value} {rs : List (List Int)} (h : RowsOwn w base v rs) : ∃ A c, v = .slice A rs.length c ∧ rs.length ≤ c ∧ RdRows w A rs := by
 obtain ⟨cs, h1, h2⟩ := h
 obtain ⟨A, c, hv, hl⟩ : ∃ A c, v = .slice A rs.length c ∧ rs.length ≤ c := by
  rcases h1.2 with ⟨e1, h0⟩ | ⟨g, cap, cur, e1, _, _, h4, h5, _⟩
  ·exact ⟨_, _, by rw [h0]; exact e1, by omega⟩
  ·exact ⟨_, _, e1, h4⟩
 subst hv
 refine ⟨A, c, rfl, hl, cs, Rd.of_own h1, fun j r hr => ?_⟩
 obtain ⟨u, e, ho⟩ := h2 j r hr
 obtain ⟨a, c, rfl, hc, _, hrd⟩ := ho.reads
 exact ⟨a, c, e, hc, hrd⟩
theorem RowsOwn.push {w w' : World} {base : Nat} {v v' u : Value} {rs : List (List Int)} {r : List Int} {cs : List Value} (h1 : w.ownsRow base 61 1 v rs.length cs) (h2 : ∀ (j : Nat) (r : List Int), rs[j]? = some r → ∃ u, cs[j]? = some u ∧ OwnI w base 112 .u64 u r)
    (hu : OwnI w base 112 .u64 u r) (ho : w'.ownsRow base 61 1 v' (rs.length + 1) (cs ++ [u])) (hg : w.grownBy w' v.ownBlock) : RowsOwn w' base v' (rs ++ [r]) := by
 have hne : ∀ u r, OwnI w base 112 .u64 u r → OwnI w' base 112 .u64 u r := fun u r hu => by
  refine hu.grown hg ?_
  rcases h1.2 with ⟨rfl, _⟩ | ⟨g, cap, cur, rfl, hb, hk, _⟩
  ·rcases hu.2 with ⟨rfl, _⟩ | ⟨g, cap, cur, rfl, _⟩
   ·exact .inl rfl
   ·exact .inr (by simp [Value.ownBlock])
  ·exact .inr (own_ne hu (show Bk w g _ cur from hk) (by decide))
 have hcl := h1.1
 refine ⟨cs ++ [u], by rw [List.length_append]; exact ho, fun j r' hr => ?_⟩
 rcases Nat.lt_trichotomy j rs.length with hj | hj | hj
 ·rw [List.getElem?_append_left hj] at hr
  obtain ⟨u', e, ho'⟩ := h2 j r' hr
  exact ⟨u', by rw [List.getElem?_append_left (by omega)]; exact e, hne _ _ ho'⟩
 ·subst hj
  simp at hr
  subst hr
  exact ⟨u, by rw [List.getElem?_append_right (by omega), hcl]; simp, hne _ _ hu⟩
 ·rw [List.getElem?_eq_none (by simp; omega)] at hr; cases hr
theorem mul64 (x y : Int) (w : World) (hx : 0 ≤ x ∧ x < 18446744073709551616) (hy : 0 ≤ y ∧ y < 18446744073709551616) :
    Calls Tryz.prog 228 #[.int .u64 x, .int .u64 y] w fun e w' => e = .returned (.tuple #[.int .u64 (x * y / 18446744073709551616), .int .u64 (x * y % 18446744073709551616)]) ∧ w = w' := by
 obtain ⟨X, rfl⟩ := Int.eq_ofNat_of_zero_le hx.1
 obtain ⟨Y, rfl⟩ := Int.eq_ofNat_of_zero_le hy.1
 refine (Tryz.bits_Mul64 X Y (by omega) (by omega) w).mono ?_
 rintro e w' ⟨rfl, rfl⟩
 refine ⟨?_, rfl⟩
 simp [Int.natCast_ediv, Int.natCast_emod]
theorem mul_step (x y c : Int) (hx : 0 ≤ x ∧ x < 18446744073709551616) (hy : 0 ≤ y ∧ y < 18446744073709551616) (hc : 0 ≤ c ∧ c < 18446744073709551616) :
    0 ≤ x * y ∧ x * y / 18446744073709551616 + (x * y % 18446744073709551616 + c) / 18446744073709551616 < 18446744073709551616 ∧
    (x * y + c) % 18446744073709551616 + 18446744073709551616 * (x * y / 18446744073709551616 + (x * y % 18446744073709551616 + c) / 18446744073709551616) = x * y + c := by
 have h1 : 0 ≤ x * y := Int.mul_nonneg hx.1 hy.1
 have h2 : x * y ≤ 18446744073709551615 * 18446744073709551615 := by
  have := Int.mul_le_mul (show x ≤ 18446744073709551615 by omega) (show y ≤ 18446744073709551615 by omega) hy.1 (by omega)
  exact this
 generalize x * y = z at *
 omega
theorem rowsVal_mul (xs : List Int) (f : List (List Int)) (v : Nat) (hl : f.length = xs.length) (h : ∀ j r, f[j]? = some r → val r = (xs.getD j 0).toNat * v) : rowsVal f = val xs * v := by
 induction xs generalizing f with
 | nil =>
   cases f with
   | nil => simp [rowsVal, val]
   | cons r f => simp at hl
 | cons x xs ih =>
   cases f with
   | nil => simp at hl
   | cons r f =>
     have h0 := h 0 r rfl
     have h1 := ih f (by simpa using hl) (fun j r hr => by have := h (j + 1) r (by simpa using hr); simpa using this)
     simp at h0
     rw [rowsVal, val, h0, h1, Nat.add_mul, Nat.mul_assoc]
theorem limb_Mul (A B : Option Addr) (c d : Nat) (l m : List Int) (w : World) (h : RdI w .u64 A l) (hn : l.length ≤ c) (hb9 : l.length ≤ 90000000)
    (h' : RdI w .u64 B m) (hn' : m.length ≤ d) (hb9' : m.length ≤ 90000000) (hu : U64 l) (hu' : U64 m) :
    Calls Tryz.prog 171 #[.slice A l.length c, .slice B m.length d] w fun e w' => ∃ v, e = .returned v ∧ OwnI w' w.heap.size 112 .u64 v (limbs (val l * val m)) ∧ Below w.heap.size w w' := by
 obtain ⟨i0, hi, hz0, hz1, hz2⟩ := info_split Tryz.infSl
 have hm1 := trimL_len m
 have hl1 := trimL_len l
 have C1 := aa (limb_trim B d m w h' hn' (by omega))
 have C2 := aa (limb_trim A c l w h hn (by omega))
 have R1 := aa h.trim
 have R2 := aa h'.trim
 have u1 : Hd (U64 (trimL l)) := ⟨by rw [trimL_take]; exact hu.take _⟩
 have u2 : Hd (U64 (trimL m)) := ⟨by rw [trimL_take]; exact hu'.take _⟩
 have v1 := aa (val_trim l)
 have v2 := aa (val_trim m)
 rw [← v1.out, ← v2.out]
 clear v1 v2 h h' hu hu'
 generalize trimL l = x at *
 generalize trimL m = y at *
 go_enter Tryz.func171, Tryz.ntmps171
 go_wp2_with fail
 refine C1.out.mono ?_
 rintro e w' ⟨rfl, rfl⟩
 go_wp2_with fail
 refine C2.out.mono ?_
 rintro e w' ⟨rfl, rfl⟩
 clear C1 C2
 go_wp2_with fail
 go_loopw [5, 21] (fun v5 v21 wr => ∃ (rs : List (List Int)) (k : Nat), v21 = .int .i64 k ∧ k ≤ x.length ∧ Hd (rs.length = k) ∧ Hd (RowsOwn wr w.heap.size v5 rs) ∧ Hd (Below w.heap.size w wr) ∧
  Hd (∀ j r, rs[j]? = some r → r.length ≤ 100000000 ∧ U64 r ∧ val r = (x.getD j 0).toNat * val y)) (fun _ v _ => x.length - (intOf v).toNat)
 case atStart => exact ⟨[], 0, rfl, by omega, ⟨rfl⟩, ⟨RowsOwn.nil _ _⟩, ⟨.refl _ _⟩, ⟨fun j r h => by simp at h⟩⟩
 case round =>
  obtain ⟨rs, k, rfl, hk, hrl, hro, hbel, hrv⟩ := hrel
  obtain ⟨ws, rfl⟩ : ∃ ws : World, ws = wr := ⟨_, rfl⟩
  obtain ⟨cs, hc1, hc2⟩ := hro.out
  have HC1 := aa hc1
  have HC2 := aa hc2
  obtain ⟨A5, c5, hv5, hl5, hrr⟩ := hro.out.reads
  subst hv5
  have HRR := aa hrr
  clear hc1 hc2 hrr
  by_cases hlt : k < x.length
  ·have RX := aa (R1.out.up hbel.out)
   obtain ⟨ad, xk, rfl, _, hxk, hcell⟩ := RX.out.get hlt
   have hx0 := u1.out.at_ k
   rw [hxk.out] at hx0
   have hmk := fun W => mkU64 (y.length + 1) ((y.length : Int) + 1) (by omega) (by omega) W
   have HB := aa hbel.out.size
   have hown0 := aa (mkU64_own (y.length + 1) (by omega) ws w.heap.size HB.out)
   go_wp2_with fail
   clear hmk
   go_loopw [9, 31] (fun v9 v31 wr => ∃ (r : List Int) (i : Nat) (cy : Int), v9 = .int .u64 cy ∧ v31 = .int .i64 i ∧ i ≤ y.length ∧ Hd (r.length = y.length + 1) ∧ Hd (U64 r) ∧ Hd (0 ≤ cy ∧ cy < 18446744073709551616) ∧
    Hd (OwnI wr w.heap.size 112 .u64 (.slice (some ⟨ws.heap.size, 0, none⟩) (y.length + 1) (y.length + 1)) r) ∧ Hd (Below ws.heap.size ws wr) ∧ Hd (r.drop i = List.replicate (y.length + 1 - i) 0) ∧ Hd (val r + 18446744073709551616 ^ i * cy.toNat = xk.toNat * val (y.take i))) (fun _ v _ => y.length - (intOf v).toNat)
   case atStart => exact ⟨List.replicate (y.length + 1) 0, 0, 0, rfl, rfl, by omega, ⟨by simp⟩, ⟨zeros_u64 _⟩, ⟨by omega⟩, hown0, ⟨(ag _ _).alloc (ae _) _⟩, ⟨by simp⟩, ⟨by rw [zeros_val]; simp [val]⟩⟩
   case round =>
    obtain ⟨r, i, cy, rfl, rfl, hi2, hrlen, hru, hcy, hown, hb2, hz, hval⟩ := hrel
    have RY := aa ((R2.out.up hbel.out).up hb2.out)
    by_cases hlt2 : i < y.length
    ·obtain ⟨bd, yi, rfl, _, hyi, hcell2⟩ := RY.out.get hlt2
     have hy0 := u2.out.at_ i
     rw [hyi.out] at hy0
     obtain ⟨g, c6, z, hv6, hg1, hg2, hz6, hcell6, hfro, hset⟩ := hown.out.cell (i := i) (by have := hrlen.out; omega)
     injection hv6 with hv6a hv6b hv6c
     injection hv6a with hv6a
     injection hv6a with hv6a
     subst hv6a hv6c
     have HS := aa hset
     have hms := mul_step xk yi cy hx0 hy0 hcy.out
     have hms1 := hms.1
     have hms2 := hms.2.1
     have hms3 := aa hms.2.2
     have hcy1 := hcy.out.1
     have hcy2 := hcy.out.2
     have hlo0 : 0 ≤ xk * yi % 18446744073709551616 := by omega
     have haa := add64 (xk * yi % 18446744073709551616) cy 0 hlo0 hcy1 (by omega) (by omega)
     rw [Int.add_zero] at haa
     clear hms hset hv6b
     go_wp2_with fail
     refine (mul64 xk yi wr hx0 hy0).mono ?_
     rintro e w' ⟨rfl, rfl⟩
     go_wp2_with fail
     go_roundw
     case measure => first | (simp [intOf]; done) | (simp [intOf]; omega)
     case rel =>
      have hcs := carry_step (os := r) (i := i) (s := (xk * yi + cy) % 18446744073709551616) (c' := xk * yi / 18446744073709551616 + (xk * yi % 18446744073709551616 + cy) / 18446744073709551616) (y := xk * yi) (cy := cy)
       (by have := hrlen.out; omega) hru.out hms1 hcy1 (by omega) (by omega) (by
        have h0 : r.getD i 0 = 0 := by
         have := congrArg (fun t => t.getD 0 0) hz.out
         simpa [show 0 < y.length + 1 - i by omega] using this
        rw [h0, hms3.out]; omega)
      refine ⟨r.set i ((xk * yi + cy) % 18446744073709551616), i + 1, _, rfl, by go_num, by omega, ⟨by rw [List.length_set]; exact hrlen.out⟩, ⟨hru.out.set i (by omega) (by omega)⟩, ⟨by omega⟩, ⟨by have := HS.out ((xk * yi + cy) % 18446744073709551616); rwa [hrlen.out] at this⟩, ⟨hb2.out.setCell (ae _) _⟩, ⟨?_⟩, ⟨?_⟩⟩
      ·rw [List.drop_set_of_lt (by omega)]
       have := congrArg (List.drop 1) hz.out
       rw [List.drop_drop, List.drop_replicate] at this
       rw [this]; congr 1
      ·rw [hcs, val_take_succ, hyi.out, Nat.mul_add]
       have h8 := hval.out
       have e1 : (xk * yi).toNat = xk.toNat * yi.toNat := Int.toNat_mul hx0.1 hy0.1
       rw [e1, Nat.mul_add, ← h8, Nat.mul_left_comm xk.toNat]
       omega
    ·have hie : i = y.length := by omega
     subst hie
     obtain ⟨g, c6, z, hv6, hg1, hg2, hz6, hcell6, hfro, hset⟩ := hown.out.cell (i := y.length) (by have := hrlen.out; omega)
     injection hv6 with hv6a hv6b hv6c
     injection hv6a with hv6a
     injection hv6a with hv6a
     subst hv6a hv6c
     have HS := aa (hset cy)
     clear hset hv6b
     have hro2 := aa (own_below HC1.out hb2.out)
     have hbs := aa hb2.out.size
     have hne5 : Hd ((Value.slice A5 rs.length c5).ownBlock ≠ some ws.heap.size) := ⟨fun e => by have := (World.ownsRow.lt HC1.out _ e).2; omega⟩
     have HS2 : Hd (OwnI (wr.setCell ⟨ws.heap.size, y.length, none⟩ (.int .u64 cy)) w.heap.size 112 .u64 (.slice (some ⟨ws.heap.size, 0, none⟩) (y.length + 1) (y.length + 1)) (r.set y.length cy)) := ⟨by have := HS.out; rwa [hrlen.out] at this⟩
     have hb3 : Hd (Below ws.heap.size ws (wr.setCell ⟨ws.heap.size, y.length, none⟩ (.int .u64 cy))) := ⟨hb2.out.setCell (ae _) _⟩
     have hro3 := aa (own_below HC1.out hb3.out)
     have hro3a := aa (World.ownsRow.alloc hro3.out (.cells #[.slice (some ⟨ws.heap.size, 0, none⟩) (y.length + 1) (y.length + 1)] 61))
     have hsz3 : (wr.setCell ⟨ws.heap.size, y.length, none⟩ (.int .u64 cy)).heap.size = wr.heap.size := World.size_setCell ..
     have HSZ3 := aa hsz3
     have hnew := aa (Rd.new_ (wr.setCell ⟨ws.heap.size, y.length, none⟩ (.int .u64 cy)) #[.slice (some ⟨ws.heap.size, 0, none⟩) (y.length + 1) (y.length + 1)] 61 1 1 rfl)
     rw [hsz3] at hnew
     clear hsz3
     have hlen5 : rs.length ≤ 90000000 := by have := hrl.out; omega
     go_wp2_with (at_builtin; (refine wpList_append_rd _ rfl _ _ 253 rfl w.heap.size 61 i0 (.slice none 0 0) 1 24 Tryz.slSl hi hz0 hz1 hz2 rfl (by decide) _ _ _ rfl hro3a.out _ _ 1 1 _ rfl hnew.out ?c0 ?c1 ?c2 ?c3 ?_))
     case c0 => first | rfl | (intro u hu; simp at hu; subst hu; rfl)
     case c1 => unfold maxLen; omega
     case c2 => omega
     case c3 => have := HSZ3.out; have := hbs.out; have := HB.out; first | omega | (simp; omega)
     intro v' w' ho hg _
     have HP : Hd (RowsOwn w' w.heap.size v' (rs ++ [r.set y.length cy])) := ⟨RowsOwn.push hro3a.out
      (fun j r hr => let ⟨u, e, ho⟩ := HC2.out j r hr; ⟨u, e, (ho.below hb3.out).al _⟩) (HS2.out.al _) ho hg⟩
     have HB4 : Hd (Below w.heap.size w w') := ⟨grown_below hro3a.out hg ((hbel.out.trans (hb3.out.mono HB.out)).alloc (by have := HSZ3.out; have := hbs.out; have := HB.out; omega) _) (by have := HSZ3.out; have := hbs.out; have := HB.out; simp; omega)⟩
     clear ho hg
     go_wp2_with fail
     go_roundw
     case measure => first | (simp [intOf]; done) | (simp [intOf]; omega)
     case rel =>
      refine ⟨_, k + 1, by go_num, by omega, ⟨by rw [List.length_append, hrl.out]; rfl⟩, HP, HB4, ⟨fun j r' hr' => ?_⟩⟩
      have hrl2 := hrl.out
      rcases Nat.lt_trichotomy j rs.length with hj | hj | hj
      ·rw [List.getElem?_append_left hj] at hr'
       exact hrv.out j r' hr'
      ·subst hj
       simp at hr'
       subst hr'
       refine ⟨by rw [List.length_set, hrlen.out]; omega, hru.out.set _ hcy.out.1 hcy.out.2, ?_⟩
       have hv1 := hval.out
       have hv2 := val_set r y.length (by have := hrlen.out; omega) cy
       have hv3 : r.getD y.length 0 = 0 := by
        have := congrArg (fun t => t.getD 0 0) hz.out
        simpa using this
       rw [List.take_length] at hv1
       rw [hv3, Int.toNat_zero, Nat.mul_zero, Nat.add_zero] at hv2
       rw [hrl2, hxk.out, hv2, hv1]
      ·rw [List.getElem?_eq_none (by simp; omega)] at hr'; cases hr'
  ·have hke : k = x.length := by omega
   have CS := aa (limb_sum A5 c5 rs ws HRR.out hl5 (by have := hrl.out; omega) (fun r hr => by
    obtain ⟨j, hj⟩ := List.mem_iff_getElem?.1 hr
    have := hrv.out j r hj
    exact ⟨this.1, this.2.1⟩))
   go_wp2_with fail
   refine CS.out.mono ?_
   rintro e w' ⟨v, rfl, ho, hb⟩
   have HO := aa ho
   have HBB := aa hb
   clear ho hb
   go_wp2_with fail
   go_ret
   refine ⟨_, rfl, ?_, hbel.out.trans (HBB.out.mono hbel.out.size)⟩
   rw [← rowsVal_mul x rs (val y) (by rw [hrl.out, hke]) (fun j r hr => (hrv.out j r hr).2.2)]
   exact HO.out.low hbel.out.size
theorem step_append_rd {P : Program} (w : World) {ops : Array Oper} {o : Oper} {a : Act} {K : Act → World → Prop} {Q : Exit → Act → World → Prop} {E : Prop} (hgd : o.guard = none) (s x : Operand) (t : TypeId)
    (ho : o.op = .call { callee := .builtin .append, args := #[s, x], argTypes := #[t, t] })
    (base : Nat) (e : TypeId) (i : TypeInfo) (z : Value) (sz bytes : Nat) (ht : P.underlying t = some (.slice e)) (hi : P.info? e = some i) (hz : i.zero = some z)
    (hsize : i.size = sz) (hby : i.bytes = bytes) (hzs : z.cells.size = sz) (hsz : 0 < sz)
    (v : Value) (n : Nat) (xs : List Value) (hs : a.eval s = v) (hown : w.ownsRow base e sz v n xs)
    (B : Nat) (A : Option Addr) (m c : Nat) (news : List Value) (hx : a.eval x = .slice A m c) (hr : Rd w B sz A m news) (h1 : ∀ u ∈ news, u.oneCell' = true)
    (h63 : n + m ≤ maxLen) (hbytes : (n + m) * bytes ≤ 140737488355328) (hbase : base ≤ w.heap.size)
    (h : ∀ v' w', w'.ownsRow base e sz v' (n + m) (xs ++ news) → w.grownBy w' v.ownBlock → (v'.ownBlock = v.ownBlock ∨ v'.ownBlock = some w.heap.size) → K (a.put o.dst v') w') :
    if Region.wanted o (yielded ops a.tmps) = true then Oper.wp P o a w K Q else E := by
 have hw : Region.wanted o (yielded ops a.tmps) = true := by simp [Region.wanted, hgd]
 rw [if_pos hw]
 exact wp_append_rd w s x t ho base e i z sz bytes ht hi hz hsize hby hzs hsz v n xs hs hown B A m c news hx hr h1 h63 hbytes hbase h
theorem alsz (w : World) (o : Obj) : w.heap.size ≤ (w.alloc o).heap.size := by simp
theorem up_limb (x c : Int) (s : Nat) (hs : s ≤ 63) (hx : 0 ≤ x ∧ x < 18446744073709551616) (hc : 0 ≤ c ∧ c < 2 ^ s) :
    ∃ lo hi : Int, bits .or .u64 (IntKind.u64.wrap (x * 2 ^ s)) c = lo ∧ x / 2 ^ (63 - s) / 2 = hi ∧ 0 ≤ lo ∧ lo < 18446744073709551616 ∧ 0 ≤ hi ∧ hi < 2 ^ s ∧ lo + 18446744073709551616 * hi = x * 2 ^ s + c := by
 obtain ⟨X, rfl⟩ := Int.eq_ofNat_of_zero_le hx.1
 obtain ⟨C, rfl⟩ := Int.eq_ofNat_of_zero_le hc.1
 have c2 : ((2 ^ s : Nat) : Int) = (2 : Int) ^ s := by rw [Int.natCast_pow]; rfl
 have c1 : ((X * 2 ^ s : Nat) : Int) = (X : Int) * 2 ^ s := by rw [Int.natCast_mul, c2]
 have c4 : ((X / 2 ^ (63 - s) / 2 : Nat) : Int) = (X : Int) / 2 ^ (63 - s) / 2 := by rw [Int.natCast_ediv, Int.natCast_ediv, Int.natCast_pow]; rfl
 rw [← c1, ← c4, ← c2]
 rw [← c2] at hc
 have p1 : 2 ^ (64 - s) * 2 ^ s = 18446744073709551616 := by rw [← Nat.pow_add, show 64 - s + s = 64 by omega]
 have p2 : 0 < 2 ^ s := Nat.pow_pos (by omega)
 have p3 : 0 < 2 ^ (64 - s) := Nat.pow_pos (by omega)
 have p4 : X / 2 ^ (63 - s) / 2 = X / 2 ^ (64 - s) := by rw [Nat.div_div_eq_div_mul, ← Nat.pow_succ, show (63 - s).succ = 64 - s by omega]
 have p5 : X * 2 ^ s % 18446744073709551616 = X % 2 ^ (64 - s) * 2 ^ s := by rw [← p1, Nat.mul_mod_mul_right]
 have p6 : IntKind.u64.wrap ((X * 2 ^ s : Nat) : Int) = ((X % 2 ^ (64 - s) * 2 ^ s : Nat) : Int) := by rw [IntKind.wrap_u64, ← p5]; omega
 have p7 : (X % 2 ^ (64 - s) + 1) * 2 ^ s ≤ 2 ^ (64 - s) * 2 ^ s := Nat.mul_le_mul_right _ (Nat.mod_lt _ p3)
 rw [p1, Nat.add_mul, Nat.one_mul] at p7
 have p8 := Nat.div_add_mod X (2 ^ (64 - s))
 have p9 : X * 2 ^ s = 18446744073709551616 * (X / 2 ^ (64 - s)) + X % 2 ^ (64 - s) * 2 ^ s := by
  rw [← p1]
  conv => lhs; rw [← p8]
  rw [Nat.add_mul, Nat.mul_right_comm]
 have p10 : X / 2 ^ (64 - s) < 2 ^ s := by rw [Nat.div_lt_iff_lt_mul p3, Nat.mul_comm, p1]; omega
 rw [p6, or_join _ C s (by omega) (by omega), p4]
 refine ⟨_, _, rfl, rfl, by omega, by omega, by omega, by omega, by omega⟩
theorem down_limb (x y : Int) (k : Nat) (hk : 1 ≤ k) (hk2 : k ≤ 63) (hx : 0 ≤ x ∧ x < 18446744073709551616) (hy : 0 ≤ y ∧ y < 18446744073709551616) :
    ∃ o : Int, bits .or .u64 (x / 2 ^ k) (IntKind.u64.wrap (y * 2 ^ (64 - k))) = o ∧ 0 ≤ o ∧ o < 18446744073709551616 ∧ 2 ^ k * o.toNat + x.toNat % 2 ^ k = x.toNat + 18446744073709551616 * (y.toNat % 2 ^ k) := by
 obtain ⟨X, rfl⟩ := Int.eq_ofNat_of_zero_le hx.1
 obtain ⟨Y, rfl⟩ := Int.eq_ofNat_of_zero_le hy.1
 have c1 : ((Y * 2 ^ (64 - k) : Nat) : Int) = (Y : Int) * 2 ^ (64 - k) := by rw [Int.natCast_mul, Int.natCast_pow]; rfl
 have c4 : ((X / 2 ^ k : Nat) : Int) = (X : Int) / 2 ^ k := by rw [Int.natCast_ediv, Int.natCast_pow]; rfl
 rw [← c1, ← c4]
 have p1 : 2 ^ k * 2 ^ (64 - k) = 18446744073709551616 := by rw [← Nat.pow_add, show k + (64 - k) = 64 by omega]
 have p2 : 0 < 2 ^ k := Nat.pow_pos (by omega)
 have p5 : Y * 2 ^ (64 - k) % 18446744073709551616 = Y % 2 ^ k * 2 ^ (64 - k) := by rw [← p1, Nat.mul_mod_mul_right]
 have p6 : IntKind.u64.wrap ((Y * 2 ^ (64 - k) : Nat) : Int) = ((Y % 2 ^ k * 2 ^ (64 - k) : Nat) : Int) := by rw [IntKind.wrap_u64, ← p5]; omega
 have p7 : (Y % 2 ^ k + 1) * 2 ^ (64 - k) ≤ 2 ^ k * 2 ^ (64 - k) := Nat.mul_le_mul_right _ (Nat.mod_lt _ p2)
 rw [p1, Nat.add_mul, Nat.one_mul] at p7
 have p8 := Nat.div_add_mod X (2 ^ k)
 have p10 : X / 2 ^ k < 2 ^ (64 - k) := by rw [Nat.div_lt_iff_lt_mul p2, Nat.mul_comm, p1]; omega
 have p11 : bits .or .u64 ((X / 2 ^ k : Nat) : Int) ((Y % 2 ^ k * 2 ^ (64 - k) : Nat) : Int) = ((Y % 2 ^ k * 2 ^ (64 - k) + X / 2 ^ k : Nat) : Int) := by
  rw [bits_or_u64_nat _ _ (by omega) (by omega), Nat.or_comm, Nat.mul_comm (Y % 2 ^ k), ← Nat.two_pow_add_eq_or_of_lt p10]
 have p12 : 2 ^ k * (Y % 2 ^ k * 2 ^ (64 - k)) = 18446744073709551616 * (Y % 2 ^ k) := by rw [Nat.mul_left_comm, p1, Nat.mul_comm]
 have p13 : Y % 2 ^ k * 2 ^ (64 - k) + X / 2 ^ k < 18446744073709551616 := by omega
 rw [p6, p11]
 refine ⟨_, rfl, Int.natCast_nonneg _, by omega, ?_⟩
 simp only [Int.toNat_natCast]
 rw [Nat.mul_add, p12]
 omega
theorem limb_Shift_up (A : Option Addr) (c s : Nat) (N : Int) (hN : N = s) (l : List Int) (w : World) (h : RdI w .u64 A l) (hn : l.length ≤ c) (hb9 : l.length ≤ 1000000000) (hu : U64 l) (hs : s ≤ 63) :
    Calls Tryz.prog 278 #[.slice A l.length c, .int .i64 N] w fun e w' => ∃ v, e = .returned v ∧ OwnI w' w.heap.size 112 .u64 v (limbs (val l * 2 ^ s)) ∧ Below w.heap.size w w' := by
 subst hN
 obtain ⟨i0, hi, hz0, hz1, hz2⟩ := info_split Tryz.infU64
 have C1 := aa (limb_trim A c l w h hn (by omega))
 have R1 := aa h.trim
 have u1 : Hd (U64 (trimL l)) := ⟨by rw [trimL_take]; exact hu.take _⟩
 have v1 := aa (val_trim l)
 have hl1 := trimL_len l
 rw [← v1.out]
 clear v1 h hu
 generalize trimL l = x at *
 have hmk : ∀ W : World, (Instr.makeSlice 61 (.int .i64 0) (.int .i64 (↑x.length + 1))).run Tryz.prog W = .ok (.slice (some ⟨W.heap.size, 0, none⟩) 0 (x.length + 1)) (W.alloc (.cells (zer (x.length + 1)) 112)) := fun W => by
  have hr := run_make (P := Tryz.prog) W 61 112 i0 (.int .u64 0) Tryz.slU64 hi hz0 .i64 .i64 0 ((x.length : Int) + 1) (by omega) (by omega) (by rw [hz2]; omega) (by omega)
  have e1 : ((x.length : Int) + 1).toNat = x.length + 1 := by omega
  have e : madeCells (Value.int .u64 0).cells (x.length + 1) = zer (x.length + 1) := by
   apply Array.ext'
   show (madeCells #[Value.int .u64 0] (x.length + 1)).toList = _
   rw [toList_madeCells_one]
   simp [zer, ints]
  rw [e1, hz1, Nat.mul_one, e] at hr
  exact hr
 have hs3 : (s : Int) ≤ 63 := by omega
 have hs4 : min (s : Int) 1000 = s := by omega
 have hs5 : (s : Int) / 64 = 0 := by omega
 have hs6 : (s : Int) % 64 = s := by omega
 go_enter Tryz.func278, Tryz.ntmps278
 go_wp2_with fail
 refine C1.out.mono ?_
 rintro e w' ⟨rfl, rfl⟩
 go_wp2_with fail
 go_loopw [8, 9, 86] (fun v8 v9 v86 wr => ∃ (os : List Int) (i : Nat) (cy : Int), v9 = .int .u64 cy ∧ v86 = .int .i64 i ∧ i ≤ x.length ∧ Hd (os.length = i) ∧ Hd (U64 os) ∧ Hd (0 ≤ cy ∧ cy < 2 ^ s) ∧ Hd (OwnI wr w.heap.size 112 .u64 v8 os) ∧ Hd (Below w.heap.size w wr) ∧
  Hd (val os + 18446744073709551616 ^ i * cy.toNat = val (x.take i) * 2 ^ s)) (fun _ _ v _ => x.length - (intOf v).toNat)
 case atStart =>
  have pp : (0 : Int) < 2 ^ s := Int.pow_pos (by omega)
  exact ⟨[], 0, 0, rfl, rfl, by omega, ⟨rfl⟩, ⟨.nil⟩, ⟨by omega⟩, ⟨World.ownsRow_made w _ (x.length + 1) (ae _) (by unfold maxLen; omega) (by rw [zer_size]; omega)⟩, ⟨(ag _ _).alloc (ae _) _⟩, ⟨by simp [val]⟩⟩
 case round =>
  obtain ⟨os, i, cy, rfl, rfl, hi2, hol, hou, hcy, hown, hbel, hval⟩ := hrel
  obtain ⟨A5, c5, rfl, hc5, hm5, hr5⟩ := hown.out.reads
  have HR5 := aa hr5
  clear hr5 hmk
  by_cases hlt : i < x.length
  ·have RX := aa (R1.out.up hbel.out)
   obtain ⟨ad, xi, rfl, _, hxi, hcell⟩ := RX.out.get hlt
   have hx0 := u1.out.at_ i
   rw [hxi.out] at hx0
   obtain ⟨lo, hi_, e1, e2, l0, l1, h0, h1, hsum⟩ := up_limb xi cy s hs hx0 hcy.out
   have HSUM := aa hsum
   have H01 := aa (af h0 h1)
   clear hsum h0 h1
   have hmin : min s 64 = s := by omega
   have hmin2 : min (63 - s) 64 = 63 - s := by omega
   have g1 : os.length + 1 ≤ maxLen := by have := hol.out; unfold maxLen; omega
   have g2 : (os.length + 1) * 8 ≤ 140737488355328 := by have := hol.out; omega
   have g3 := hbel.out.size
   have G1 := aa g1
   have G2 := aa g2
   clear g1 g2
   have s0 : (0 : Int) ≤ s := by omega
   have s1 : (s : Int).tmod 64 = s := by rw [Int.tmod_eq_emod_of_nonneg s0]; omega
   have s2 : IntKind.i64.wrap (63 - (s : Int)) = 63 - s := by rw [IntKind.wrap_i64]; omega
   have s3 : (0 : Int) ≤ 63 - s := by omega
   have s4 : (63 - (s : Int)).toNat = 63 - s := by omega
   go_wp2_with fail
   go_region_law (first | (refine step_append_rd _ rfl _ _ 61 rfl w.heap.size 112 i0 (.int .u64 0) 1 8 Tryz.slU64 hi hz0 hz1 hz2 rfl (by decide) _ _ _ rfl (hown.out.al _).d1 _ _ 1 1 (ints .u64 [lo]) rfl (Rd.new_ wr #[.int .u64 lo] 112 1 1 rfl) (ints_one _ _) G1.out G2.out (ah g3 (alsz _ _)) ?_; intro v' w' ho hg _))
   have HO : Hd (OwnI w' w.heap.size 112 .u64 v' (os ++ [lo])) := ⟨by unfold OwnI; rw [ints_app, List.length_append]; exact ho⟩
   have HB : Hd (Below w.heap.size w w') := ⟨grown_below (hown.out.al _).d1 hg ((hbel.out.alloc g3 _).drew) (ah g3 (alsz _ _))⟩
   clear ho hg
   go_wp2_with fail
   go_roundw
   case measure => first | (simp [intOf]; done) | (simp [intOf]; omega)
   case rel =>
    refine ⟨os ++ [lo], i + 1, hi_, rfl, by go_num, by omega, ⟨by rw [List.length_append, hol.out]; rfl⟩, ⟨hou.out.app (U64.nil.cons l0 l1)⟩, H01, HO, HB, ⟨?_⟩⟩
    rw [val_snoc, hol.out, val_take_succ, hxi.out, Nat.pow_succ, Nat.add_mul, ← hval.out]
    have h01 := H01.out.1
    have e5 : lo.toNat + 18446744073709551616 * hi_.toNat = xi.toNat * 2 ^ s + cy.toNat := by
     have h1 := HSUM.out
     obtain ⟨X, rfl⟩ := Int.eq_ofNat_of_zero_le hx0.1
     have c1 : ((X * 2 ^ s : Nat) : Int) = (X : Int) * 2 ^ s := by rw [Int.natCast_mul, Int.natCast_pow]; rfl
     rw [← c1] at h1
     have := hcy.out.1
     rw [Int.toNat_natCast]
     omega
    have e6 := congrArg (18446744073709551616 ^ i * ·) e5
    simp only [Nat.mul_add] at e6
    rw [Nat.mul_assoc, Nat.mul_assoc]
    omega
  ·have hie : i = x.length := by omega
   have hown2 := aa (hown.out.al (.cells #[.int .u64 cy] 112))
   have hHB := hbel.out.size
   have hol2 : os.length ≤ 1000000000 := by have := hol.out; omega
   go_wp2_with (at_builtin; refine wpList_append_rd _ rfl _ _ 61 rfl w.heap.size 112 i0 (.int .u64 0) 1 8 Tryz.slU64 hi hz0 hz1 hz2 rfl (by decide) _ _ _ rfl hown2.out _ _ 1 1 (ints .u64 [cy]) rfl (Rd.new_ wr #[.int .u64 cy] 112 1 1 rfl) (ints_one _ _) ?c1 ?c2 ?c3 ?_)
   case c1 => unfold maxLen; omega
   case c2 => omega
   case c3 => simp; omega
   intro v' w' ho hg _
   obtain ⟨z, HZ⟩ : ∃ z, Hd (z = os ++ [cy]) := ⟨_, ⟨rfl⟩⟩
   have HO : Hd (OwnI w' w.heap.size 112 .u64 v' z) := ⟨by rw [HZ.out]; unfold OwnI; rw [ints_app, List.length_append]; exact ho⟩
   have HB : Hd (Below w.heap.size w w') := ⟨grown_below hown2.out hg (hbel.out.alloc hHB _) (by simp; omega)⟩
   clear ho hg
   have pw : (2 : Int) ^ s ≤ 9223372036854775808 := by
    have : 2 ^ s ≤ 2 ^ 63 := Nat.pow_le_pow_right (by omega) hs
    have c2 : ((2 ^ s : Nat) : Int) = (2 : Int) ^ s := by rw [Int.natCast_pow]; rfl
    rw [← c2]; omega
   have hou2 : Hd (U64 z) := ⟨by rw [HZ.out]; exact hou.out.app (U64.nil.cons hcy.out.1 (by have := hcy.out.2; omega))⟩
   have hzl : z.length ≤ 1000000001 := by rw [HZ.out]; simp; omega
   obtain ⟨A7, c7, hv7, hc7, hm7, hr7⟩ := HO.out.reads
   subst hv7
   have HR7 := aa hr7
   clear hr7 hm7 pw
   have tz := trimL_len z
   have C2 := aa (limb_trim A7 c7 z w' HR7.out hc7 (by omega))
   go_wp2_with fail
   refine C2.out.mono ?_
   rintro e w2 ⟨rfl, rfl⟩
   go_wp2_with fail
   refine (clone_u64 A7 c7 (trimL z) w' HR7.out.trim (by omega) (by omega)).mono ?_
   rintro e w2 ⟨v, rfl, ho, hb⟩
   have HO2 := aa ho
   have HB2 := aa hb
   clear ho hb
   go_wp2_with fail
   go_ret
   refine ⟨_, rfl, ?_, HB.out.trans (HB2.out.mono HB.out.size)⟩
   have h5 := hval.out
   rw [hie, List.take_length] at h5
   have h6 : val z = val x * 2 ^ s := by rw [HZ.out, val_snoc, hol.out, hie]; exact h5
   rw [← h6, ← trim_limbs hou2.out]
   exact HO2.out.low HB.out.size
theorem down_val {x os : List Int} {s i : Nat} {xi y o : Int} (hil : i < os.length) (hil2 : i < x.length) (hxi : x.getD i 0 = xi) (hy : x.getD (i + 1) 0 = y) (hsum : 2 ^ s * o.toNat + xi.toNat % 2 ^ s = xi.toNat + 18446744073709551616 * (y.toNat % 2 ^ s)) (hval : 2 ^ s * val (os.take i) + (x.getD 0 0).toNat % 2 ^ s = val (x.take i) + 18446744073709551616 ^ i * ((x.getD i 0).toNat % 2 ^ s)) :
    2 ^ s * val ((os.set i o).take (i + 1)) + (x.getD 0 0).toNat % 2 ^ s = val (x.take (i + 1)) + 18446744073709551616 ^ (i + 1) * ((x.getD (i + 1) 0).toNat % 2 ^ s) := by
 have e3 : (os.set i o).take (i + 1) = os.take i ++ [o] := by
  rw [take_snoc (by rw [List.length_set]; exact hil), List.take_set_of_le (ae _)]
  rw [List.getD_eq_getElem?_getD, List.getElem?_set_self hil]; rfl
 rw [e3, val_snoc, List.length_take, Nat.min_eq_left (by omega), val_take_succ, hxi, Nat.pow_succ, hy]
 rw [hxi] at hval
 clear e3 hxi hy
 generalize (18446744073709551616 : Nat) ^ i = P at *
 generalize (x.getD 0 0).toNat % 2 ^ s = m0 at *
 generalize xi.toNat % 2 ^ s = m1 at *
 generalize y.toNat % 2 ^ s = m2 at *
 generalize (2 : Nat) ^ s = Q at *
 generalize val (os.take i) = V at *
 generalize val (x.take i) = V2 at *
 have e6 := congrArg (P * ·) hsum
 simp only [Nat.mul_add] at e6
 rw [Nat.mul_add, Nat.mul_left_comm Q, Nat.mul_assoc]
 omega
theorem limb_Shift_down (A : Option Addr) (c s : Nat) (N : Int) (hN : N = -(s : Int)) (l : List Int) (w : World) (h : RdI w .u64 A l) (hn : l.length ≤ c) (hb9 : l.length ≤ 1000000000) (hu : U64 l) (hs1 : 1 ≤ s) (hs : s ≤ 63) :
    Calls Tryz.prog 278 #[.slice A l.length c, .int .i64 N] w fun e w' => ∃ v, e = .returned v ∧ OwnI w' w.heap.size 112 .u64 v (limbs (val l / 2 ^ s)) ∧ Below w.heap.size w w' := by
 have C1 := aa (limb_trim A c l w h hn (by omega))
 have R1 := aa h.trim
 have u1 : Hd (U64 (trimL l)) := ⟨by rw [trimL_take]; exact hu.take _⟩
 have v1 := aa (val_trim l)
 have hl1 := trimL_len l
 rw [← v1.out]
 clear v1 h hu
 generalize trimL l = x at *
 have n0 : N < 0 := by omega
 have n1 : max N (-100001) = N := by omega
 have n2 : (-N) = s := by omega
 have n3 : (s : Int) / 64 = 0 := by omega
 have n4 : (s : Int) % 64 = s := by omega
 have s3 : (s : Int) ≤ 63 := by omega
 have s0 : (0 : Int) < s := by omega
 have n5 : decide ((100000 : Int) < (s : Int)) = false := decide_eq_false (by omega)
 clear hN
 go_enter Tryz.func278, Tryz.ntmps278
 go_wp2_with fail
 refine C1.out.mono ?_
 rintro e w' ⟨rfl, rfl⟩
 by_cases hx : x.length = 0
 ·have hxn : x = [] := List.eq_nil_of_length_eq_zero hx
  subst hxn
  clear hx C1 hl1
  go_wp2_with fail
  go_ret
  refine ⟨_, rfl, ?_, .refl _ _⟩
  rw [val, Nat.zero_div, limbs_zero]
  exact OwnI.nil _ _ _ _
 ·have hx1 : 0 < x.length := by omega
  have hc0 : ¬ c = 0 := by omega
  go_wp2_with fail
  refine (clone_u64 A c x w R1.out (by omega) (by omega)).mono ?_
  rintro e w1 ⟨v, rfl, ho, hb⟩
  have HO := aa ho
  have HB := aa hb
  clear ho hb
  obtain ⟨A5, c5, rfl, hc5, hm5, _⟩ := HO.out.reads
  clear hx
  go_wp2_with fail
  simp only [n4]
  go_loopw [37] (fun v37 wr => ∃ (os : List Int) (i : Nat), v37 = .int .i64 i ∧ i ≤ x.length ∧ Hd (os.length = x.length) ∧ Hd (U64 os) ∧ Hd (OwnI wr w.heap.size 112 .u64 (.slice A5 x.length c5) os) ∧ Hd (Below w.heap.size w wr) ∧ Hd (os.drop i = x.drop i) ∧
   Hd (2 ^ s * val (os.take i) + (x.getD 0 0).toNat % 2 ^ s = val (x.take i) + 18446744073709551616 ^ i * ((x.getD i 0).toNat % 2 ^ s))) (fun v _ => x.length - (intOf v).toNat)
  case atStart => exact ⟨x, 0, rfl, by omega, ⟨rfl⟩, u1, HO, HB, ⟨rfl⟩, ⟨by simp [val]⟩⟩
  case round =>
   obtain ⟨os, i, rfl, hi2, hol, hou, hown, hbel, hdr, hval⟩ := hrel
   by_cases hlt : i < x.length
   ·have hil : i < os.length := by have := hol.out; omega
    obtain ⟨g, c6, xi, hv, hg1, hg2, hxi, hcell, hfro, hset⟩ := hown.out.cell hil
    injection hv with hv1 hv2 hv3
    subst hv1 hv3
    have HS := aa hset
    have hxi2 : Hd (x.getD i 0 = xi) := ⟨by
     have h1 := congrArg (fun t => t.getD 0 0) hdr.out
     simp only [List.getD_eq_getElem?_getD, List.getElem?_drop, Nat.add_zero] at h1
     rw [List.getD_eq_getElem?_getD, ← h1, ← List.getD_eq_getElem?_getD]; exact hxi.out⟩
    have hx0 := u1.out.at_ i
    rw [hxi2.out] at hx0
    have hmin : min s 64 = s := by omega
    have hmin2 : min (64 - s) 64 = 64 - s := by omega
    clear hset hv2
    have hcell' := hcell
    clear hcell'
    by_cases hlt2 : i + 1 < x.length
    ·have hb1 : ((i : Int) + 1 < x.length) := by omega
     obtain ⟨g', c', y, hv, _, _, hy, hcell2, _, _⟩ := hown.out.cell (i := i + 1) (by have := hol.out; omega)
     injection hv with hv1 hv2 hv3
     injection hv1 with hv1
     injection hv1 with hv1
     subst hv1 hv3
     clear hv2
     have hy2 : Hd (x.getD (i + 1) 0 = y) := ⟨by
      have h1 := congrArg (fun t => t.getD 1 0) hdr.out
      simp only [List.getD_eq_getElem?_getD, List.getElem?_drop] at h1
      rw [List.getD_eq_getElem?_getD, ← h1, ← List.getD_eq_getElem?_getD]; exact hy.out⟩
     have hy0 := u1.out.at_ (i + 1)
     rw [hy2.out] at hy0
     obtain ⟨o, e1, o0, o1, hsum⟩ := down_limb xi y s hs1 hs hx0 hy0
     have HSUM := aa hsum
     clear hsum
     have s5 : IntKind.i64.wrap (64 - (s : Int)) = 64 - s := by rw [IntKind.wrap_i64]; omega
     have s6 : (0 : Int) ≤ 64 - s := by omega
     have s7 : (64 - (s : Int)).toNat = 64 - s := by omega
     have s8 : (0 : Int) ≤ i := by omega
     have s9 : (i : Int) < x.length := by omega
     have s10 : IntKind.i64.wrap ((i : Int) + 1) = i + 1 := by rw [IntKind.wrap_i64]; omega
     have s11 : ((i : Int) + 1).toNat = i + 1 := by omega
     have s12 : (0 : Int) ≤ (i : Int) + 1 := by omega
     go_wp2_with fail
     go_region
     go_wp2_with fail
     go_roundw
     case measure => first | (simp [intOf]; done) | (simp [intOf]; omega)
     case rel =>
      refine ⟨os.set i o, i + 1, by go_num, by omega, ⟨by rw [List.length_set]; exact hol.out⟩, ⟨hou.out.set i o0 o1⟩, ⟨?_⟩, ⟨((hbel.out.setCell hg1 _).setCell hg1 _).drew⟩, ⟨?_⟩, ⟨?_⟩⟩
      ·have h1 := OwnI.put (OwnI.put (hown.out) hil (xi / 2 ^ s)) (i := i) (by rw [List.length_set]; exact hil) o
       rw [List.set_set] at h1
       exact h1.d1
      ·rw [List.drop_set_of_lt (by omega)]
       have := congrArg (List.drop 1) hdr.out
       rw [List.drop_drop, List.drop_drop] at this
       exact this
      ·exact down_val hil hlt hxi2.out hy2.out HSUM.out hval.out
    ·have hb1 : ¬ ((i : Int) + 1 < x.length) := by omega
     have hq0 : 0 ≤ xi / 2 ^ s := Int.ediv_nonneg hx0.1 (Int.le_of_lt (Int.pow_pos (by omega)))
     have hq1 : xi / 2 ^ s < 18446744073709551616 := by
      have := Int.ediv_le_self (2 ^ s : Int) hx0.1
      omega
     have HSUM : Hd (2 ^ s * (xi / 2 ^ s).toNat + xi.toNat % 2 ^ s = xi.toNat + 18446744073709551616 * ((0 : Int).toNat % 2 ^ s)) := ⟨by
      obtain ⟨X, rfl⟩ := Int.eq_ofNat_of_zero_le hx0.1
      have c4 : ((X / 2 ^ s : Nat) : Int) = (X : Int) / 2 ^ s := by rw [Int.natCast_ediv, Int.natCast_pow]; rfl
      rw [← c4, Int.toNat_natCast, Int.toNat_natCast, Nat.div_add_mod]; simp⟩
     go_wp2_with fail
     go_roundw
     case measure => first | (simp [intOf]; done) | (simp [intOf]; omega)
     case rel =>
      refine ⟨os.set i (xi / 2 ^ s), i + 1, by go_num, by omega, ⟨by rw [List.length_set]; exact hol.out⟩, ⟨hou.out.set i hq0 hq1⟩, ⟨?_⟩, ⟨hbel.out.setCell hg1 _⟩, ⟨?_⟩, ⟨?_⟩⟩
      ·exact OwnI.put hown.out hil _
      ·rw [List.drop_set_of_lt (by omega)]
       have := congrArg (List.drop 1) hdr.out
       rw [List.drop_drop, List.drop_drop] at this
       exact this
      ·exact down_val hil hlt hxi2.out (getD_out (show x.length ≤ i + 1 by omega)) HSUM.out hval.out
   ·have hie : i = x.length := by omega
    obtain ⟨A6, c6, hv, hc6, _, hr6⟩ := hown.out.reads
    injection hv with hv1 hv2 hv3
    subst hv1 hv3
    have HR := aa hr6
    have CC := aa (limb_trim A5 c5 os wr HR.out hc6 (by have := hol.out; omega))
    rw [hol.out] at CC
    clear hv2 hr6 hc6
    go_wp2_with fail
    refine CC.out.mono ?_
    rintro e w3 ⟨rfl, rfl⟩
    go_wp2_with fail
    go_ret
    refine ⟨_, rfl, ?_, hbel.out⟩
    have h5 := hval.out
    rw [hie, getD_out (ae _), List.take_length, List.take_of_length_le (by rw [hol.out]; exact ae _)] at h5
    have h6 : val x / 2 ^ s = val os := by
     have p2 : 0 < 2 ^ s := Nat.pow_pos (by omega)
     have e8 : val x = 2 ^ s * val os + (x.getD 0 0).toNat % 2 ^ s := by
      simp at h5; simp; omega
     rw [e8, Nat.mul_add_div p2, Nat.div_eq_of_lt (Nat.mod_lt _ p2), Nat.add_zero]
    rw [h6, ← trim_limbs hou.out]
    have h7 := hown.out
    rw [← hol.out] at h7
    have h8 := h7.pre (trimL_len os)
    rw [← trimL_take] at h8
    exact h8
instance (l : List Int) : Decidable (Trim l) := by unfold Trim; infer_instance
def natMay (l : List Int) : Bool := decide (l.length ≤ 8 ∧ Trim l)
theorem natMay_len {l : List Int} (h : natMay l = true) : l.length ≤ 8 := (of_decide_eq_true h).1
theorem natMay_trim {l : List Int} (h : natMay l = true) : Trim l := (of_decide_eq_true h).2
theorem natMay_limbs {l : List Int} (h : natMay l = true) (hu : U64 l) : limbs (val l) = l := limbs_of hu (natMay_trim h)
theorem limbs_may {n : Nat} (h : (limbs n).length ≤ 8) : natMay (limbs n) = true := decide_eq_true ⟨h, limbs_trim n⟩
theorem nat_May (A : Option Addr) (c : Nat) (l : List Int) (w : World) (h : RdI w .u64 A l) (hn : l.length ≤ c) (hb9 : l.length ≤ 1000000000) :
    Calls Tryz.prog 270 #[.slice A l.length c] w fun e w' => e = .returned (.bool (natMay l)) ∧ w = w' := by
 by_cases h8 : l.length ≤ 8
 ·rcases Nat.eq_zero_or_pos l.length with h0 | h0
  ·have hnil := List.eq_nil_of_length_eq_zero h0
   subst hnil
   clear h8 hb9 h0
   go_enter Tryz.func270, Tryz.ntmps270
   go_wp2_with fail
   go_ret
   exact ⟨retBool (by decide), rfl⟩
  ·obtain ⟨ad, x, rfl, _, hx, hc⟩ := h.get (i := l.length - 1) (by omega)
   have e1 : ((l.length : Int) == 0) = false := by rw [beq_eq_false_iff_ne]; omega
   have e2 : decide ((l.length : Int) ≤ 8) = true := decide_eq_true (by omega)
   have e3 : ((l.length : Int) - 1).toNat = l.length - 1 := by omega
   by_cases hz : x = 0
   ·have hm : natMay l = false := decide_eq_false (fun hh => by
      rcases hh.2 with h1 | h1
      ·rw [h1] at h0; exact absurd h0 (by decide)
      ·exact h1 (hx.out.trans hz))
    have HM := aa hm
    subst hz
    clear hm
    go_enter Tryz.func270, Tryz.ntmps270
    go_wp2_with fail
    go_ret
    exact ⟨retBool HM.out.symm, rfl⟩
   ·have hm : natMay l = true := decide_eq_true ⟨h8, .inr (by rw [hx.out]; exact hz)⟩
    have HM := aa hm
    have hz2 : (x != 0) = true := by rw [bne_iff_ne]; exact hz
    clear hm
    go_enter Tryz.func270, Tryz.ntmps270
    go_wp2_with fail
    go_ret
    exact ⟨retBool HM.out.symm, rfl⟩
 ·have hm : natMay l = false := decide_eq_false (fun hh => h8 hh.1)
  have HM := aa hm
  have e2 : decide ((l.length : Int) ≤ 8) = false := decide_eq_false (by omega)
  clear hm
  go_enter Tryz.func270, Tryz.ntmps270
  go_wp2_with fail
  go_ret
  exact ⟨retBool HM.out.symm, rfl⟩
theorem lit1_own (w : World) (x : Int) (base : Nat) (hb : base ≤ w.heap.size) : OwnI (w.alloc (.cells #[.int .u64 x] 112)) base 112 .u64 (.slice (some ⟨w.heap.size, 0, none⟩) 1 1) [x] :=
 World.ownsRow_lit (e := 112) (size := 1) w #[.int .u64 x] 1 hb (by unfold maxLen; omega) rfl
theorem limbs_one {x : Int} (h0 : 0 < x) (h1 : x < 18446744073709551616) : limbs x.toNat = [x] := by
 rw [limbs_pos (by omega), Nat.div_eq_of_lt (by omega), limbs_zero, Nat.mod_eq_of_lt (by omega)]
 congr 1; omega
theorem nat_Of (x : Int) (w : World) (h0 : 0 ≤ x) (h1 : x < 18446744073709551616) :
    Calls Tryz.prog 175 #[.int .u64 x] w fun e w' => ∃ v, e = .returned v ∧ OwnI w' w.heap.size 112 .u64 v (limbs x.toNat) ∧ Below w.heap.size w w' := by
 by_cases hz : x = 0
 ·subst hz
  clear h0 h1
  go_enter Tryz.func175, Tryz.ntmps175
  go_wp2_with fail
  go_ret
  exact ⟨_, rfl, by rw [show (0 : Int).toNat = 0 from rfl, limbs_zero]; exact OwnI.nil _ _ _ _, .refl _ _⟩
 ·have hz2 : (x == 0) = false := by rw [beq_eq_false_iff_ne]; exact hz
  go_enter Tryz.func175, Tryz.ntmps175
  go_wp2_with fail
  go_ret
  exact ⟨_, rfl, by rw [limbs_one (by omega) h1]; exact lit1_own _ _ _ (ae _), (ag _ _).alloc (ae _) _⟩
theorem nat_Cmp (A B : Option Addr) (c d : Nat) (l m : List Int) (w : World) (h : RdI w .u64 A l) (hn : l.length ≤ c) (hb9 : l.length ≤ 1000000000)
    (h' : RdI w .u64 B m) (hn' : m.length ≤ d) (hb9' : m.length ≤ 1000000000) (hu : U64 l) (hu' : U64 m) :
    Calls Tryz.prog 226 #[.slice A l.length c, .slice B m.length d] w fun e w' => e = .returned (.int .i64 (cmpN (val l) (val m))) ∧ Dr w w' := by
 go_enter Tryz.func226, Tryz.ntmps226
 go_wp2_with fail
 refine (limb_Cmp A B c d l m w h hn hb9 h' hn' hb9' hu hu').mono ?_
 rintro e w' ⟨rfl, hd⟩
 have HD := aa hd
 clear hd
 go_wp2_with fail
 go_ret
 exact ⟨rfl, HD.out⟩
theorem small_step {l os : List Int} {i n r : Nat} (hol : os.length = l.length) (hi : i < l.length) (X : Int) (hX : X = l.getD i 0) (hX0 : 0 ≤ X) (D : Int)
    (hD : D = ((r : Int) * 18446744073709551616 + X) / n) (R : Int) (hR : R = ((r : Int) * 18446744073709551616 + X) % n)
    (hval : val (os.drop (i + 1)) * n + r = val (l.drop (i + 1))) :
    val ((os.set i D).drop i) * n + R.toNat = val (l.drop i) := by
 obtain ⟨x, rfl⟩ := Int.eq_ofNat_of_zero_le hX0
 have hD2 : D = ((r * 18446744073709551616 + x) / n : Nat) := by rw [hD]; simp
 have hR2 : R = ((r * 18446744073709551616 + x) % n : Nat) := by rw [hR]; simp
 rw [drop_at (l := os.set i D) (by rw [List.length_set]; omega), drop_at hi, ← hX, val, val]
 have e1 : (os.set i D).getD i 0 = D := by rw [List.getD_eq_getElem?_getD, List.getElem?_set_self (by omega)]; rfl
 rw [e1, List.drop_set_of_lt (by omega), hD2, hR2, Int.toNat_natCast, Int.toNat_natCast, Int.toNat_natCast, ← hval]
 have := Nat.div_add_mod (r * 18446744073709551616 + x) n
 generalize (r * 18446744073709551616 + x) / n = d at *
 generalize (r * 18446744073709551616 + x) % n = m at *
 generalize val (os.drop (i + 1)) = V at *
 rw [Nat.add_mul, Nat.mul_add, Nat.mul_assoc]
 have := Nat.mul_comm d n
 omega
theorem quot_Small (A : Option Addr) (c : Nat) (l : List Int) (N : Int) (n : Nat) (hN : N = n) (w : World) (h : RdI w .u64 A l) (hn : l.length ≤ c) (hu : U64 l) (hm : natMay l = true) (hn1 : 1 ≤ n) (hn2 : n < 18446744073709551616) :
    Calls Tryz.prog 276 #[.slice A l.length c, .int .u64 N] w fun e w' => ∃ v, e = .returned (.tuple #[v, .int .u64 (val l % n : Nat), .int .i64 0]) ∧ OwnI w' w.heap.size 112 .u64 v (limbs (val l / n)) ∧ Below w.heap.size w w' := by
 have hl8 := natMay_len hm
 have hz : (N == 0) = false := by rw [beq_eq_false_iff_ne]; omega
 have C1 := aa (nat_May A c l w h hn (by omega))
 rw [hm] at C1
 have R := aa h
 have HU := aa hu
 have hmk := fun W => mkU64 l.length (l.length : Int) rfl (by omega) W
 have hown0 := aa (mkU64_own l.length (by omega) w w.heap.size (ae _))
 have HM := aa hm
 have HN := aa hN
 clear h hm hN hu
 go_enter Tryz.func276, Tryz.ntmps276
 go_wp2_with fail
 refine C1.out.mono ?_
 rintro e w' ⟨rfl, rfl⟩
 clear C1
 go_wp2_with fail
 go_loopw [8, 9] (fun v8 v9 wr => ∃ (os : List Int) (k r : Nat), v8 = .int .u64 r ∧ v9 = .int .i64 ((k : Int) - 1) ∧ k ≤ l.length ∧ Hd (os.length = l.length) ∧ Hd (U64 os) ∧ r < n ∧
  Hd (OwnI wr w.heap.size 112 .u64 (.slice (some ⟨w.heap.size, 0, none⟩) l.length l.length) os) ∧ Hd (Below w.heap.size w wr) ∧ Hd (val (os.drop k) * n + r = val (l.drop k))) (fun _ v _ => (intOf v + 1).toNat)
 case atStart => exact ⟨List.replicate l.length 0, l.length, 0, rfl, rfl, ae _, ⟨by simp⟩, ⟨zeros_u64 _⟩, by omega, hown0, ⟨(ag _ _).alloc (ae _) _⟩, ⟨by rw [List.drop_eq_nil_of_le (by simp), List.drop_eq_nil_of_le (ae _)]; simp [val]⟩⟩
 case round =>
  obtain ⟨os, k, r, rfl, rfl, hk, hol, hou, hr, hown, hbel, hval⟩ := hrel
  cases k with
  | zero =>
    obtain ⟨A6, c6, hv, hc6, _, hr6⟩ := hown.out.reads
    injection hv with hv1 hv2 hv3
    subst hv1 hv3
    have HR := aa hr6
    have CC := aa (limb_Trim (some ⟨w.heap.size, 0, none⟩) l.length os wr HR.out (by have := hol.out; omega) (by have := hol.out; omega))
    rw [hol.out] at CC
    clear hv2 hr6 hc6
    go_wp2_with fail
    refine CC.out.mono ?_
    rintro e w3 ⟨v, rfl, ho3, hb3⟩
    have HO := aa ho3
    have HB := aa hb3
    clear ho3 hb3
    go_wp2_with fail
    go_ret3
    have e1 := hval.out
    simp only [List.drop_zero] at e1
    have e2 : val l / n = val os := by
     rw [← e1, Nat.mul_comm, Nat.mul_add_div (by omega), Nat.div_eq_of_lt hr, Nat.add_zero]
    have e3 : val l % n = r := by
     rw [← e1, Nat.mul_comm, Nat.mul_add_mod, Nat.mod_eq_of_lt hr]
    refine ⟨_, by rw [e3]; rfl, ?_, hbel.out.trans (HB.out.mono hbel.out.size)⟩
    rw [e2, ← trim_limbs hou.out]
    exact HO.out.low hbel.out.size
  | succ i =>
    have e1 : ((i + 1 : Nat) : Int) - 1 = i := by omega
    simp only [e1]
    obtain ⟨ad, x, rfl, _, hx, hc⟩ := (R.out.up hbel.out).get (i := i) (by omega)
    have hx0 := HU.out.at_ i
    rw [hx.out] at hx0
    obtain ⟨g, c6, z, hv6, hg1, hg2, hz6, hcell6, hfro, hset⟩ := hown.out.cell (i := i) (by have := hol.out; omega)
    injection hv6 with hv6a hv6b hv6c
    injection hv6a with hv6a
    injection hv6a with hv6a
    subst hv6a hv6c
    have HS := aa hset
    clear hset hv6b
    obtain ⟨D, hD⟩ : ∃ D, ((r : Int) * 18446744073709551616 + x) / N = D := ⟨_, rfl⟩
    obtain ⟨M, hM⟩ : ∃ M, ((r : Int) * 18446744073709551616 + x) % N = M := ⟨_, rfl⟩
    have DV := div64 r x N wr (by omega) (by have := HN.out; omega) (by have := HN.out; omega) hx0.1 hx0.2
    rw [hD, hM] at DV
    have DV := aa DV
    have hN1 : 1 ≤ N := by have := HN.out; omega
    have D0 : 0 ≤ D := by rw [← hD]; exact Int.ediv_nonneg (by omega) (by omega)
    have D1 : D < 18446744073709551616 := by
     rw [← hD]
     apply Int.ediv_lt_of_lt_mul (by omega)
     have := HN.out
     have h1 : (r : Int) + 1 ≤ N := by omega
     have := Int.mul_le_mul_of_nonneg_left h1 (show (0 : Int) ≤ 18446744073709551616 by omega)
     omega
    have M0 : 0 ≤ M := by rw [← hM]; exact Int.emod_nonneg _ (by omega)
    have M1 : M < N := by rw [← hM]; exact Int.emod_lt_of_pos _ (by omega)
    have ST := aa (small_step (os := os) (n := n) (r := r) hol.out (by omega : i < l.length) x hx.out.symm hx0.1 D (by rw [← hD, HN.out]) M (by rw [← hM, HN.out]) hval.out)
    clear hD hM
    go_wp2_with fail
    refine DV.out.mono ?_
    rintro e w' ⟨rfl, ⟨nq, rfl⟩⟩
    go_wp2_with fail
    go_roundw
    case measure => first | (simp [intOf]; done) | (simp [intOf]; omega)
    case rel =>
     refine ⟨os.set i D, i, M.toNat, by rw [Int.toNat_of_nonneg M0], rfl, by omega, ⟨by rw [List.length_set]; exact hol.out⟩, ⟨hou.out.set i D0 D1⟩, by have := HN.out; omega, ⟨?_⟩, ⟨?_⟩, ST⟩
     ·have := OwnI.put (hown.out.dn nq) (i := i) (by have := hol.out; omega) D
      exact this
     ·exact (Below.dn hbel.out nq).setCell (ae _) _
theorem zeroCells_u64 (n : Nat) : Builtin.zeroCells (Value.int .u64 0).cells n = zer n := by
 apply Array.ext'
 have e : (Value.int .u64 0).cells = #[Value.int .u64 0] := rfl
 rw [e]
 apply List.ext_getElem
 ·simp [Builtin.zeroCells, zer, ints]
 ·intro j h1 h2
  simp [Builtin.zeroCells, zer, ints, Nat.mod_one]
theorem zer_list (n : Nat) : (zer n).toList = ints .u64 (List.replicate n 0) := by simp [zer]
theorem inf0 {P : Program} {t : TypeId} {z : Value} {s b : Nat} (h : (P.info? t).map (fun i => (i.zero, i.size, i.bytes)) = some (some z, s, b)) : (P.info? t).map (·.size) = some s := by
 obtain ⟨i, hi, h1, h2, h3⟩ := info_split h
 rw [hi]; simp [h2]
theorem run_append_zeros (w : World) (tn ty : TypeId) (kn k : IntKind) (htn : Tryz.prog.underlying tn = some (.int kn)) (base : Nat) (v : Value) (l : List Int) (hown : OwnI w base 112 .u64 v l)
    (m : Nat) (M : Int) (hM : M = m) (h9 : l.length + m ≤ 2000000000) (hbase : base ≤ w.heap.size) :
    ∃ v' w', (Builtin.append_ #[61, tn] ty #[v, .int k M]).run Tryz.prog w = .ok v' w' ∧ OwnI w' base 112 .u64 v' (l ++ List.replicate m 0) ∧ w.grownBy w' v.ownBlock ∧
     (v'.ownBlock = v.ownBlock ∨ v'.ownBlock = some w.heap.size) := by
 subst hM
 obtain ⟨i, hi, hz, hz1, hz2⟩ := info_split Tryz.infU64
 have ht := Tryz.slU64
 have hw : IntKind.i64.wrap (m : Int) = m := by rw [IntKind.wrap_i64]; omega
 have hneg : ¬ ((m : Int) < 0) := by omega
 have h48i : ¬ (281474976710656 < (m : Int) * (i.bytes : Int)) := by rw [hz2]; omega
 have hap : (if m * i.size = 0 then (pure #[] : Sem (Array Value)) else pure (Builtin.zeroCells (Value.int .u64 0).cells m)) = pure (zer m) := by
  split
  ·next h => rw [hz1, Nat.mul_one] at h; subst h; rfl
  ·rw [zeroCells_u64]
 unfold OwnI at hown
 rcases Nat.eq_zero_or_pos m with hm | hm
 ·subst hm
  have hw0 : IntKind.i64.wrap 0 = 0 := by rw [IntKind.wrap_i64]; omega
  refine ⟨v, w, ?_, by simpa [OwnI] using hown, World.grownBy.refl w _, .inl rfl⟩
  rcases hown.2 with ⟨rfl, h0⟩ | ⟨g, cap, cur, rfl, hbg, hg, hnc, hcm, hcs, htake⟩
  ·have hl : l = [] := List.eq_nil_of_length_eq_zero h0
   subst hl
   simp [Builtin.append_, run_underlying ht, run_underlying htn, sizeOf, typeInfo, hi, asInt, asIntOf, hw0]
  ·simp [Builtin.append_, run_underlying ht, run_underlying htn, sizeOf, typeInfo, hi, asInt, asIntOf, hw0, hnc, storeCells]
 rcases hown.2 with ⟨rfl, h0⟩ | ⟨g, cap, cur, rfl, hbg, hg, hnc, hcm, hcs, htake⟩
 ·have hl : l = [] := List.eq_nil_of_length_eq_zero h0
  subst hl
  have hr := Lib.run_append_nil_zeros (P := Tryz.prog) w 61 tn ty 112 i (.int .u64 0) k kn ht htn hi hz m hm (by omega) (by omega) (by rw [hz2]; omega)
  refine ⟨_, _, hr, ?_, ⟨rfl, rfl, rfl, by simp, fun j hk _ => heap_alloc_old w.drew _ hk⟩, .inr rfl⟩
  have hcm := grownCap_le_maxLen w m 0 112 (by unfold maxLen; omega)
  have hcg := grownCap_ge w m 0 112
  refine ⟨by simp [ints], .inr ⟨w.heap.size, _, _, by simp, hbase, heap_alloc_new w.drew _, by simpa using hcg, hcm, ?_, ?_⟩⟩
  ·rw [zeroCells_u64, zeroCells_u64, Array.size_append, zer_size, zer_size]; omega
  ·rw [zeroCells_u64, zeroCells_u64, Array.toList_append, zer_list, zer_list]
   rw [List.take_append_of_le_length (by simp [ints]), List.nil_append]
   exact List.take_of_length_le (by simp [ints])
 ·by_cases hroom : l.length + m ≤ cap
  ·have hfit : l.length * 1 + (ints .u64 (List.replicate m 0)).length ≤ cur.size := by rw [hcs, ints_len, List.length_replicate]; omega
   have hst := run_storeCells_at Tryz.prog g (l.length * 1) 112 (ints .u64 (List.replicate m 0)) 0 cur w hg (by simpa using hfit) (ints_one _ _)
   simp only [Nat.add_zero] at hst
   refine ⟨.slice (some ⟨g, 0, none⟩) (l.length + m) cap, w.setRow g (cur.toList.take (l.length * 1) ++ ints .u64 (List.replicate m 0) ++ cur.toList.drop (l.length * 1 + (ints .u64 (List.replicate m 0)).length)).toArray, ?_, ?_, ⟨rfl, rfl, rfl, by simp, fun j _ hk => setRow_other w g j _ (fun e => hk (by simp [Value.ownBlock, e]))⟩, .inl rfl⟩
   ·simp only [hz1, Nat.mul_one] at hst
    have hm0 : ¬ m = 0 := by omega
    simp [Builtin.append_, run_underlying ht, run_underlying htn, sizeOf, typeInfo, zeroValue, hi, hz, hz1, asInt, asIntOf, hw, hneg, h48i, hroom, Addr.add_lit, hm0, zeroCells_u64, zer_list]
    rw [hst]
    simp
   ·refine ⟨by simp [ints], .inr ⟨g, cap, _, by simp, hbg, setRow_heap w g cur _ 112 _ hg, by simpa using hroom, hcm, ?_, ?_⟩⟩
    ·simp only [List.size_toArray, List.length_append, List.length_take, List.length_drop, Array.length_toList, ints_len, List.length_replicate]
     omega
    ·rw [htake, ← ints_app]
     exact List.take_left' (by simp [ints])
  ·have hhold := run_firstCells_some (P := Tryz.prog) w.drew i.size l.length ⟨g, 0, none⟩ l.length cap (ints .u64 l) (by rw [hz1]; simp [ints]) (by simpa using hown.cells (g := g) rfl)
   have h63' : ¬ (9223372036854775807 < ((l.length : Int) + (m : Int))) := by omega
   have h48' : ¬ (281474976710656 < Builtin.nextslicecap (l.length + m) cap * i.bytes) := by
    have := growslice_fits (need := l.length + m) (old := cap) (by omega) (show (l.length + m) * i.bytes ≤ 140737488355328 by rw [hz2]; omega)
    omega
   have hcm2 := grownCap_le_maxLen w (l.length + m) cap 112 (by unfold maxLen; omega)
   have hcg := grownCap_ge w (l.length + m) cap 112
   have hm0 : ¬ m = 0 := by omega
   refine ⟨.slice (some ⟨w.heap.size, 0, none⟩) (l.length + m) (grownCap w (l.length + m) cap 112), w.drew.alloc (.cells ((ints .u64 l).toArray ++ (zer m ++ zer (grownCap w (l.length + m) cap 112 - (l.length + m)))) 112), ?_, ?_, ⟨rfl, rfl, rfl, by simp, fun j hk _ => heap_alloc_old w.drew _ hk⟩, .inr rfl⟩
   ·simp only [hz1] at hhold
    simp [Builtin.append_, run_underlying ht, run_underlying htn, sizeOf, typeInfo, zeroValue, hi, hz, hz1, asInt, asIntOf, hw, hneg, h48i, hroom, h63', h48', Question.forced, hhold, newRow, grownCap, hm0, zeroCells_u64]
   ·refine ⟨by simp [ints], .inr ⟨w.heap.size, _, _, by simp, hbase, heap_alloc_new w.drew _, by simpa using hcg, hcm2, ?_, ?_⟩⟩
    ·rw [Array.size_append, Array.size_append, zer_size, zer_size]; simp [ints]; omega
    ·rw [Array.toList_append, Array.toList_append, zer_list, zer_list, ← List.append_assoc, ← ints_app]
     exact List.take_left' (by simp [ints])
theorem step_append_zeros (w : World) {ops : Array Oper} {o : Oper} {a : Act} {K : Act → World → Prop} {Q : Exit → Act → World → Prop} {E : Prop} (hgd : o.guard = none) (s x : Operand) (tn : TypeId)
    (ho : o.op = .call { callee := .builtin .append, args := #[s, x], argTypes := #[61, tn] }) (kn k : IntKind) (htn : Tryz.prog.underlying tn = some (.int kn)) (base : Nat) (v : Value) (l : List Int)
    (hs : a.eval s = v) (hown : OwnI w base 112 .u64 v l) (m : Nat) (M : Int) (hx : a.eval x = .int k M) (hM : M = m) (h9 : l.length + m ≤ 2000000000) (hbase : base ≤ w.heap.size)
    (h : ∀ v' w', OwnI w' base 112 .u64 v' (l ++ List.replicate m 0) → w.grownBy w' v.ownBlock → (v'.ownBlock = v.ownBlock ∨ v'.ownBlock = some w.heap.size) → K (a.put o.dst v') w') :
    if Region.wanted o (yielded ops a.tmps) = true then Oper.wp Tryz.prog o a w K Q else E := by
 have hw : Region.wanted o (yielded ops a.tmps) = true := by simp [Region.wanted, hgd]
 rw [if_pos hw]
 obtain ⟨v', w', hrun, h2, h3, h4⟩ := run_append_zeros w tn o.type kn k htn base v l hown m M hM h9 hbase
 unfold Oper.wp execOp
 simp only [ho, resolve, invoke, builtin, Sem.run_bind, Sem.run_pure, Result.andThen_ok, List.map_toArray, List.map_cons, List.map_nil, hs, hx, hrun]
 exact h v' w' h2 h3 h4
theorem step_copy_row {P : Program} {ops : Array Oper} {o : Oper} {a : Act} {w : World} {K : Act → World → Prop} {Q : Exit → Act → World → Prop} {E : Prop} (hgd : o.guard = none) (d s : Operand) (dT sT : TypeId)
    (ho : o.op = .call { callee := .builtin .copy, args := #[d, s], argTypes := #[dT, sT] }) (elem : TypeId) (hu : P.underlying dT = some (.slice elem)) (hsz : (P.info? elem).map (·.size) = some 1)
    (g off dLen dCap : Nat) (ad : Addr) (sLen sCap : Nat) (hd : a.eval d = .slice (some ⟨g, off, none⟩) dLen dCap) (hs : a.eval s = .slice (some ad) sLen sCap)
    (cur : List Value) (t : TypeId) (hg : Bk w g t cur.toArray) (cs : List Value) (hn : cs.length = Nat.min sLen dLen)
    (hsrc : ∀ j v, cs[j]? = some v → w.cell? (ad.add j) = some v) (hfit : off + cs.length ≤ cur.length) (h1 : ∀ v ∈ cs, v.oneCell' = true)
    (h : K (a.put o.dst (goInt cs.length)) (w.setRow g (splice cur off cs).toArray)) :
    if Region.wanted o (yielded ops a.tmps) = true then Oper.wp P o a w K Q else E := by
 have hw : Region.wanted o (yielded ops a.tmps) = true := by simp [Region.wanted, hgd]
 rw [if_pos hw]
 have hrun := run_copy_row (P := P) w dT sT o.type elem g off dLen dCap ad sLen sCap cur.toArray t cs hu hsz hg hn hsrc (by simpa using hfit) h1
 unfold Oper.wp
 simp [execOp, ho, resolve, invoke, builtin, hd, hs, hrun, Result.andThen]
 simp only [splice] at h
 exact h
theorem Bk.row {w : World} {g : Nat} {t : TypeId} {cs : Array Value} (h : Bk w g t cs) (ds : Array Value) : Bk (w.setRow g ds) g t ds := setRow_heap w g cs _ t _ h
theorem row_grown {w w' : World} {g : Nat} (h : w.grownBy w' (some g)) (ds : Array Value) : w.grownBy (w'.setRow g ds) (some g) :=
 ⟨h.os, h.tape, h.output, by simpa [World.setRow] using h.size, fun k hk hne => (setRow_other w' g k ds (fun e => hne (by rw [e]))).trans (h.block k hk hne)⟩
end Go.Proofs.YtgjkgkgieeoalaaGreat
