/- Parts of the proof, joined: each theorem says what it shows. -/
import Derived.Test.YtgjkgkgieeoalaaGreatC06
import Derived.Test.YtgjkgkgieeoalaaGreatC02
import Derived.Test.YtgjkgkgieeoalaaGreatC01
import Derived.Lib.BitFns
set_option linter.unusedVariables false
set_option linter.unusedSimpArgs false
set_option maxHeartbeats 24000000
set_option maxRecDepth 100000
namespace Go.Proofs.YtgjkgkgieeoalaaGreat
open Go.RowKit
def zer (n : Nat) : Array Value := (ints .u64 (List.replicate n 0)).toArray
theorem zer_size (n : Nat) : (zer n).size = n := by simp [zer, ints]
theorem mkU64 (n : Nat) (N : Int) (hN : N = n) (h9 : n ≤ 2000000000) (w : World) :
    (Instr.makeSlice 61 (.int .i64 N) (.int .i64 N)).run Tryz.prog w = .ok (.slice (some ⟨w.heap.size, 0, none⟩) n n) (w.alloc (.cells (zer n) 112)) := by
 subst hN
 obtain ⟨i0, hi, hz0, hz1, hz2⟩ := info_split Tryz.infU64
 have hr := run_make (P := Tryz.prog) w 61 112 i0 (.int .u64 0) Tryz.slU64 hi hz0 .i64 .i64 n n (by omega) (Int.le_refl _) (by rw [hz2]; omega) (by omega)
 simp only [Int.toNat_natCast, hz1, Nat.mul_one] at hr
 have e : madeCells (Value.int .u64 0).cells n = zer n := by
  apply Array.ext'
  show (madeCells #[Value.int .u64 0] n).toList = _
  rw [toList_madeCells_one]
  simp [zer, ints]
 rw [hr, e]
theorem mkU64_own (n : Nat) (h9 : n ≤ 2000000000) (w : World) (base : Nat) (hb : base ≤ w.heap.size) : OwnI (w.alloc (.cells (zer n) 112)) base 112 .u64 (.slice (some ⟨w.heap.size, 0, none⟩) n n) (List.replicate n 0) := by
 have := World.ownsRow_lit (e := 112) (size := 1) w (zer n) n hb (by unfold maxLen; omega) (by rw [zer_size]; omega)
 unfold OwnI
 rw [List.length_replicate]
 simpa [zer] using this
theorem zeros_u64 (n : Nat) : U64 (List.replicate n 0) := fun x hx => by rw [List.eq_of_mem_replicate hx]; omega
theorem zeros_val (n : Nat) : val (List.replicate n 0) = 0 := by
 induction n with
 | zero => rfl
 | succ n ih => rw [List.replicate_succ, val, ih]; rfl
theorem own_below {w w' : World} {base : Nat} {e : TypeId} {sz n : Nat} {v : Value} {xs : List Value} (h : w.ownsRow base e sz v n xs) (hb : Below w.heap.size w w') : w'.ownsRow base e sz v n xs := by
 refine ⟨h.1, ?_⟩
 rcases h.2 with h1 | ⟨g, cap, cur, e1, h2, h3, r⟩
 ·exact .inl h1
 ·refine .inr ⟨g, cap, cur, e1, h2, ?_, r⟩
  rcases Nat.lt_or_ge g w.heap.size with hg | hg
  ·exact (hb.block g hg).trans h3
  ·rw [Array.getElem?_eq_none hg] at h3; cases h3
theorem OwnI.grown {w w' : World} {base : Nat} {e : TypeId} {k : IntKind} {v : Value} {l : List Int} (h : OwnI w base e k v l) {row : Option Nat} (hg : w.grownBy w' row) (hne : v.ownBlock = none ∨ v.ownBlock ≠ row) : OwnI w' base e k v l := World.ownsRow.kept h hg hne
def RowsOwn (w : World) (base : Nat) (v : Value) (rs : List (List Int)) : Prop :=
 ∃ cs, w.ownsRow base 61 1 v rs.length cs ∧ ∀ (j : Nat) (r : List Int), rs[j]? = some r → ∃ u, cs[j]? = some u ∧ OwnI w base 112 .u64 u r
theorem RowsOwn.nil (w : World) (base : Nat) : RowsOwn w base (.slice none 0 0) [] := ⟨[], World.ownsRow_nil w base _ 1, fun j r h => by simp at h⟩
theorem RowsOwn.below {w w' : World} {base : Nat} {v : Value} {rs : List (List Int)} (h : RowsOwn w base v rs) (hb : Below w.heap.size w w') : RowsOwn w' base v rs := by
 obtain ⟨cs, h1, h2⟩ := h
 exact ⟨cs, own_below h1 hb, fun j r hr => let ⟨u, e, ho⟩ := h2 j r hr; ⟨u, e, ho.below hb⟩⟩
theorem RowsOwn.reads {w : World} {base : Nat} {v : Value} {rs : List (List Int)} (h : RowsOwn w base v rs) : ∃ A c, v = .slice A rs.length c ∧ rs.length ≤ c ∧ RdRows w A rs := by
 obtain ⟨cs, h1, h2⟩ := h
 obtain ⟨A, c, hv, hl⟩ : ∃ A c, v = .slice A rs.length c ∧ rs.length ≤ c := by
  rcases h1.2 with ⟨e1, h0⟩ | ⟨g, cap, cur, e1, _, _, h4, h5, _⟩
  ·exact ⟨_, _, by rw [h0]; exact e1, by omega⟩
  ·exact ⟨_, _, e1, h4⟩
 subst hv
 refine ⟨A, c, rfl, hl, cs, Rd.of_own h1, fun j r hr => ?_⟩
 obtain ⟨u, e, ho⟩ := h2 j r hr
 obtain ⟨a, c, rfl, hc, _, hrd⟩ := ho.reads
 exact ⟨a, c, e, hc, hrd⟩
theorem RowsOwn.push {w w' : World} {base : Nat} {v v' u : Value} {rs : List (List Int)} {r : List Int} {cs : List Value} (h1 : w.ownsRow base 61 1 v rs.length cs) (h2 : ∀ (j : Nat) (r : List Int), rs[j]? = some r → ∃ u, cs[j]? = some u ∧ OwnI w base 112 .u64 u r)
    (hu : OwnI w base 112 .u64 u r) (ho : w'.ownsRow base 61 1 v' (rs.length + 1) (cs ++ [u])) (hg : w.grownBy w' v.ownBlock) : RowsOwn w' base v' (rs ++ [r]) := by
 have hne : ∀ u r, OwnI w base 112 .u64 u r → OwnI w' base 112 .u64 u r := fun u r hu => by
  refine hu.grown hg ?_
  rcases h1.2 with ⟨rfl, _⟩ | ⟨g, cap, cur, rfl, hb, hk, _⟩
  ·rcases hu.2 with ⟨rfl, _⟩ | ⟨g, cap, cur, rfl, _⟩
   ·exact .inl rfl
   ·exact .inr (by simp [Value.ownBlock])
  ·exact .inr (own_ne hu (show Bk w g _ cur from hk) (by decide))
 have hcl := h1.1
 refine ⟨cs ++ [u], by rw [List.length_append]; exact ho, fun j r' hr => ?_⟩
 rcases Nat.lt_trichotomy j rs.length with hj | hj | hj
 ·rw [List.getElem?_append_left hj] at hr
  obtain ⟨u', e, ho'⟩ := h2 j r' hr
  exact ⟨u', by rw [List.getElem?_append_left (by omega)]; exact e, hne _ _ ho'⟩
 ·subst hj
  simp at hr
  subst hr
  exact ⟨u, by rw [List.getElem?_append_right (by omega), hcl]; simp, hne _ _ hu⟩
 ·rw [List.getElem?_eq_none (by simp; omega)] at hr; cases hr
theorem mul64 (x y : Int) (w : World) (hx : 0 ≤ x ∧ x < 18446744073709551616) (hy : 0 ≤ y ∧ y < 18446744073709551616) :
    Calls Tryz.prog 228 #[.int .u64 x, .int .u64 y] w fun e w' => e = .returned (.tuple #[.int .u64 (x * y / 18446744073709551616), .int .u64 (x * y % 18446744073709551616)]) ∧ w = w' := by
 obtain ⟨X, rfl⟩ := Int.eq_ofNat_of_zero_le hx.1
 obtain ⟨Y, rfl⟩ := Int.eq_ofNat_of_zero_le hy.1
 refine (Tryz.bits_Mul64 X Y (by omega) (by omega) w).mono ?_
 rintro e w' ⟨rfl, rfl⟩
 refine ⟨?_, rfl⟩
 simp [Int.natCast_ediv, Int.natCast_emod]
theorem mul_step (x y c : Int) (hx : 0 ≤ x ∧ x < 18446744073709551616) (hy : 0 ≤ y ∧ y < 18446744073709551616) (hc : 0 ≤ c ∧ c < 18446744073709551616) :
    0 ≤ x * y ∧ x * y / 18446744073709551616 + (x * y % 18446744073709551616 + c) / 18446744073709551616 < 18446744073709551616 ∧
    (x * y + c) % 18446744073709551616 + 18446744073709551616 * (x * y / 18446744073709551616 + (x * y % 18446744073709551616 + c) / 18446744073709551616) = x * y + c := by
 have h1 : 0 ≤ x * y := Int.mul_nonneg hx.1 hy.1
 have h2 : x * y ≤ 18446744073709551615 * 18446744073709551615 := by
  have := Int.mul_le_mul (show x ≤ 18446744073709551615 by omega) (show y ≤ 18446744073709551615 by omega) hy.1 (by omega)
  exact this
 generalize x * y = z at *
 omega
theorem rowsVal_mul (xs : List Int) (f : List (List Int)) (v : Nat) (hl : f.length = xs.length) (h : ∀ j r, f[j]? = some r → val r = (xs.getD j 0).toNat * v) : rowsVal f = val xs * v := by
 induction xs generalizing f with
 | nil =>
   cases f with
   | nil => simp [rowsVal, val]
   | cons r f => simp at hl
 | cons x xs ih =>
   cases f with
   | nil => simp at hl
   | cons r f =>
     have h0 := h 0 r rfl
     have h1 := ih f (by simpa using hl) (fun j r hr => by have := h (j + 1) r (by simpa using hr); simpa using this)
     simp at h0
     rw [rowsVal, val, h0, h1, Nat.add_mul, Nat.mul_assoc]
theorem limb_Mul (A B : Option Addr) (c d : Nat) (l m : List Int) (w : World) (h : RdI w .u64 A l) (hn : l.length ≤ c) (hb9 : l.length ≤ 90000000)
    (h' : RdI w .u64 B m) (hn' : m.length ≤ d) (hb9' : m.length ≤ 90000000) (hu : U64 l) (hu' : U64 m) :
    Calls Tryz.prog 171 #[.slice A l.length c, .slice B m.length d] w fun e w' => ∃ v, e = .returned v ∧ OwnI w' w.heap.size 112 .u64 v (limbs (val l * val m)) ∧ Below w.heap.size w w' := by
 obtain ⟨i0, hi, hz0, hz1, hz2⟩ := info_split Tryz.infSl
 have hm1 := trimL_len m
 have hl1 := trimL_len l
 have C1 := Hd.mk (limb_trim B d m w h' hn' (by omega))
 have C2 := Hd.mk (limb_trim A c l w h hn (by omega))
 have R1 := Hd.mk h.trim
 have R2 := Hd.mk h'.trim
 have u1 : Hd (U64 (trimL l)) := ⟨by rw [trimL_take]; exact hu.take _⟩
 have u2 : Hd (U64 (trimL m)) := ⟨by rw [trimL_take]; exact hu'.take _⟩
 have v1 := Hd.mk (val_trim l)
 have v2 := Hd.mk (val_trim m)
 rw [← v1.out, ← v2.out]
 clear v1 v2 h h' hu hu'
 generalize trimL l = x at *
 generalize trimL m = y at *
 go_enter Tryz.func171, Tryz.ntmps171
 go_wp2_with fail
 refine C1.out.mono ?_
 rintro e w' ⟨rfl, rfl⟩
 go_wp2_with fail
 refine C2.out.mono ?_
 rintro e w' ⟨rfl, rfl⟩
 clear C1 C2
 go_wp2_with fail
 go_loopw [5, 21] (fun v5 v21 wr => ∃ (rs : List (List Int)) (k : Nat), v21 = .int .i64 k ∧ k ≤ x.length ∧ Hd (rs.length = k) ∧ Hd (RowsOwn wr w.heap.size v5 rs) ∧ Hd (Below w.heap.size w wr) ∧
  Hd (∀ j r, rs[j]? = some r → r.length ≤ 100000000 ∧ U64 r ∧ val r = (x.getD j 0).toNat * val y)) (fun _ v _ => x.length - (intOf v).toNat)
 case atStart => exact ⟨[], 0, rfl, by omega, ⟨rfl⟩, ⟨RowsOwn.nil _ _⟩, ⟨.refl _ _⟩, ⟨fun j r h => by simp at h⟩⟩
 case round =>
  obtain ⟨rs, k, rfl, hk, hrl, hro, hbel, hrv⟩ := hrel
  obtain ⟨ws, rfl⟩ : ∃ ws : World, ws = wr := ⟨_, rfl⟩
  obtain ⟨cs, hc1, hc2⟩ := hro.out
  have HC1 := Hd.mk hc1
  have HC2 := Hd.mk hc2
  obtain ⟨A5, c5, hv5, hl5, hrr⟩ := hro.out.reads
  subst hv5
  have HRR := Hd.mk hrr
  clear hc1 hc2 hrr
  by_cases hlt : k < x.length
  ·have RX := Hd.mk (R1.out.up hbel.out)
   obtain ⟨ad, xk, rfl, _, hxk, hcell⟩ := RX.out.get hlt
   have hx0 := u1.out.at_ k
   rw [hxk.out] at hx0
   have hmk := fun W => mkU64 (y.length + 1) ((y.length : Int) + 1) (by omega) (by omega) W
   have HB := Hd.mk hbel.out.size
   have hown0 := Hd.mk (mkU64_own (y.length + 1) (by omega) ws w.heap.size HB.out)
   go_wp2_with fail
   clear hmk
   go_loopw [9, 31] (fun v9 v31 wr => ∃ (r : List Int) (i : Nat) (cy : Int), v9 = .int .u64 cy ∧ v31 = .int .i64 i ∧ i ≤ y.length ∧ Hd (r.length = y.length + 1) ∧ Hd (U64 r) ∧ Hd (0 ≤ cy ∧ cy < 18446744073709551616) ∧
    Hd (OwnI wr w.heap.size 112 .u64 (.slice (some ⟨ws.heap.size, 0, none⟩) (y.length + 1) (y.length + 1)) r) ∧ Hd (Below ws.heap.size ws wr) ∧ Hd (r.drop i = List.replicate (y.length + 1 - i) 0) ∧ Hd (val r + 18446744073709551616 ^ i * cy.toNat = xk.toNat * val (y.take i))) (fun _ v _ => y.length - (intOf v).toNat)
   case atStart => exact ⟨List.replicate (y.length + 1) 0, 0, 0, rfl, rfl, by omega, ⟨by simp⟩, ⟨zeros_u64 _⟩, ⟨by omega⟩, hown0, ⟨(Below.refl _ _).alloc (Nat.le_refl _) _⟩, ⟨by simp⟩, ⟨by rw [zeros_val]; simp [val]⟩⟩
   case round =>
    obtain ⟨r, i, cy, rfl, rfl, hi2, hrlen, hru, hcy, hown, hb2, hz, hval⟩ := hrel
    have RY := Hd.mk ((R2.out.up hbel.out).up hb2.out)
    by_cases hlt2 : i < y.length
    ·obtain ⟨bd, yi, rfl, _, hyi, hcell2⟩ := RY.out.get hlt2
     have hy0 := u2.out.at_ i
     rw [hyi.out] at hy0
     obtain ⟨g, c6, z, hv6, hg1, hg2, hz6, hcell6, hfro, hset⟩ := hown.out.cell (i := i) (by have := hrlen.out; omega)
     injection hv6 with hv6a hv6b hv6c
     injection hv6a with hv6a
     injection hv6a with hv6a
     subst hv6a hv6c
     have HS := Hd.mk hset
     have hms := mul_step xk yi cy hx0 hy0 hcy.out
     have hms1 := hms.1
     have hms2 := hms.2.1
     have hms3 := Hd.mk hms.2.2
     have hcy1 := hcy.out.1
     have hcy2 := hcy.out.2
     have hlo0 : 0 ≤ xk * yi % 18446744073709551616 := by omega
     have haa := add64 (xk * yi % 18446744073709551616) cy 0 hlo0 hcy1 (by omega) (by omega)
     rw [Int.add_zero] at haa
     clear hms hset hv6b
     go_wp2_with fail
     refine (mul64 xk yi wr hx0 hy0).mono ?_
     rintro e w' ⟨rfl, rfl⟩
     go_wp2_with fail
     go_roundw
     case measure => first | (simp [intOf]; done) | (simp [intOf]; omega)
     case rel =>
      have hcs := carry_step (os := r) (i := i) (s := (xk * yi + cy) % 18446744073709551616) (c' := xk * yi / 18446744073709551616 + (xk * yi % 18446744073709551616 + cy) / 18446744073709551616) (y := xk * yi) (cy := cy)
       (by have := hrlen.out; omega) hru.out hms1 hcy1 (by omega) (by omega) (by
        have h0 : r.getD i 0 = 0 := by
         have := congrArg (fun t => t.getD 0 0) hz.out
         simpa [show 0 < y.length + 1 - i by omega] using this
        rw [h0, hms3.out]; omega)
      refine ⟨r.set i ((xk * yi + cy) % 18446744073709551616), i + 1, _, rfl, by go_num, by omega, ⟨by rw [List.length_set]; exact hrlen.out⟩, ⟨hru.out.set i (by omega) (by omega)⟩, ⟨by omega⟩, ⟨by have := HS.out ((xk * yi + cy) % 18446744073709551616); rwa [hrlen.out] at this⟩, ⟨hb2.out.setCell (Nat.le_refl _) _⟩, ⟨?_⟩, ⟨?_⟩⟩
      ·rw [List.drop_set_of_lt (by omega)]
       have := congrArg (List.drop 1) hz.out
       rw [List.drop_drop, List.drop_replicate] at this
       rw [this]; congr 1
      ·rw [hcs, val_take_succ, hyi.out, Nat.mul_add]
       have h8 := hval.out
       have e1 : (xk * yi).toNat = xk.toNat * yi.toNat := Int.toNat_mul hx0.1 hy0.1
       rw [e1, Nat.mul_add, ← h8, Nat.mul_left_comm xk.toNat]
       omega
    ·have hie : i = y.length := by omega
     subst hie
     obtain ⟨g, c6, z, hv6, hg1, hg2, hz6, hcell6, hfro, hset⟩ := hown.out.cell (i := y.length) (by have := hrlen.out; omega)
     injection hv6 with hv6a hv6b hv6c
     injection hv6a with hv6a
     injection hv6a with hv6a
     subst hv6a hv6c
     have HS := Hd.mk (hset cy)
     clear hset hv6b
     have hro2 := Hd.mk (own_below HC1.out hb2.out)
     have hbs := Hd.mk hb2.out.size
     have hne5 : Hd ((Value.slice A5 rs.length c5).ownBlock ≠ some ws.heap.size) := ⟨fun e => by have := (World.ownsRow.lt HC1.out _ e).2; omega⟩
     have HS2 : Hd (OwnI (wr.setCell ⟨ws.heap.size, y.length, none⟩ (.int .u64 cy)) w.heap.size 112 .u64 (.slice (some ⟨ws.heap.size, 0, none⟩) (y.length + 1) (y.length + 1)) (r.set y.length cy)) := ⟨by have := HS.out; rwa [hrlen.out] at this⟩
     have hb3 : Hd (Below ws.heap.size ws (wr.setCell ⟨ws.heap.size, y.length, none⟩ (.int .u64 cy))) := ⟨hb2.out.setCell (Nat.le_refl _) _⟩
     have hro3 := Hd.mk (own_below HC1.out hb3.out)
     have hro3a := Hd.mk (World.ownsRow.alloc hro3.out (.cells #[.slice (some ⟨ws.heap.size, 0, none⟩) (y.length + 1) (y.length + 1)] 61))
     have hsz3 : (wr.setCell ⟨ws.heap.size, y.length, none⟩ (.int .u64 cy)).heap.size = wr.heap.size := World.size_setCell ..
     have HSZ3 := Hd.mk hsz3
     have hnew := Hd.mk (Rd.new_ (wr.setCell ⟨ws.heap.size, y.length, none⟩ (.int .u64 cy)) #[.slice (some ⟨ws.heap.size, 0, none⟩) (y.length + 1) (y.length + 1)] 61 1 1 rfl)
     rw [hsz3] at hnew
     clear hsz3
     have hlen5 : rs.length ≤ 90000000 := by have := hrl.out; omega
     go_wp2_with (at_builtin; (refine wpList_append_rd _ rfl _ _ 253 rfl w.heap.size 61 i0 (.slice none 0 0) 1 24 Tryz.slSl hi hz0 hz1 hz2 rfl (by decide) _ _ _ rfl hro3a.out _ _ 1 1 _ rfl hnew.out ?c0 ?c1 ?c2 ?c3 ?_))
     case c0 => first | rfl | (intro u hu; simp at hu; subst hu; rfl)
     case c1 => unfold maxLen; omega
     case c2 => omega
     case c3 => have := HSZ3.out; have := hbs.out; have := HB.out; first | omega | (simp; omega)
     intro v' w' ho hg _
     have HP : Hd (RowsOwn w' w.heap.size v' (rs ++ [r.set y.length cy])) := ⟨RowsOwn.push hro3a.out
      (fun j r hr => let ⟨u, e, ho⟩ := HC2.out j r hr; ⟨u, e, (ho.below hb3.out).al _⟩) (HS2.out.al _) ho hg⟩
     have HB4 : Hd (Below w.heap.size w w') := ⟨grown_below hro3a.out hg ((hbel.out.trans (hb3.out.mono HB.out)).alloc (by have := HSZ3.out; have := hbs.out; have := HB.out; omega) _) (by have := HSZ3.out; have := hbs.out; have := HB.out; simp; omega)⟩
     clear ho hg
     go_wp2_with fail
     go_roundw
     case measure => first | (simp [intOf]; done) | (simp [intOf]; omega)
     case rel =>
      refine ⟨_, k + 1, by go_num, by omega, ⟨by rw [List.length_append, hrl.out]; rfl⟩, HP, HB4, ⟨fun j r' hr' => ?_⟩⟩
      have hrl2 := hrl.out
      rcases Nat.lt_trichotomy j rs.length with hj | hj | hj
      ·rw [List.getElem?_append_left hj] at hr'
       exact hrv.out j r' hr'
      ·subst hj
       simp at hr'
       subst hr'
       refine ⟨by rw [List.length_set, hrlen.out]; omega, hru.out.set _ hcy.out.1 hcy.out.2, ?_⟩
       have hv1 := hval.out
       have hv2 := val_set r y.length (by have := hrlen.out; omega) cy
       have hv3 : r.getD y.length 0 = 0 := by
        have := congrArg (fun t => t.getD 0 0) hz.out
        simpa using this
       rw [List.take_length] at hv1
       rw [hv3, Int.toNat_zero, Nat.mul_zero, Nat.add_zero] at hv2
       rw [hrl2, hxk.out, hv2, hv1]
      ·rw [List.getElem?_eq_none (by simp; omega)] at hr'; cases hr'
  ·have hke : k = x.length := by omega
   have CS := Hd.mk (limb_sum A5 c5 rs ws HRR.out hl5 (by have := hrl.out; omega) (fun r hr => by
    obtain ⟨j, hj⟩ := List.mem_iff_getElem?.1 hr
    have := hrv.out j r hj
    exact ⟨this.1, this.2.1⟩))
   go_wp2_with fail
   refine CS.out.mono ?_
   rintro e w' ⟨v, rfl, ho, hb⟩
   have HO := Hd.mk ho
   have HBB := Hd.mk hb
   clear ho hb
   go_wp2_with fail
   go_ret
   refine ⟨_, rfl, ?_, hbel.out.trans (HBB.out.mono hbel.out.size)⟩
   rw [← rowsVal_mul x rs (val y) (by rw [hrl.out, hke]) (fun j r hr => (hrv.out j r hr).2.2)]
   exact HO.out.low hbel.out.size
structure Kn (y1 y0 U u1 q r : Int) : Prop where
 e : q * y1 + r = U
 y1l : 2147483648 ≤ y1
 y1u : y1 < 4294967296
 y0l : 0 ≤ y0
 y0u : y0 < 4294967296
 u1l : 0 ≤ u1
 u1u : u1 < 4294967296
 Ul : 0 ≤ U
 Uu : U < y1 * 4294967296 + y0
 ql : (U * 4294967296 + u1) / (y1 * 4294967296 + y0) ≤ q
 qu : q ≤ 4294967297
 rl : 0 ≤ r
 ru : r < 4294967296
section
variable {y1 y0 U u1 q r : Int}
theorem Kn.Y (h : Kn y1 y0 U u1 q r) : q * (y1 * 4294967296 + y0) = (U - r) * 4294967296 + q * y0 := by
 rw [Int.mul_add, ← Int.mul_assoc, show q * y1 = U - r by have := h.e; omega]
theorem Kn.qt (h : Kn y1 y0 U u1 q r) : (U * 4294967296 + u1) / (y1 * 4294967296 + y0) < 4294967296 ∧ 0 ≤ (U * 4294967296 + u1) / (y1 * 4294967296 + y0) := by
 have := h.y1l; have := h.y0l; have := h.u1l; have := h.u1u; have := h.Ul; have := h.Uu
 exact ⟨Int.ediv_lt_of_lt_mul (by omega) (by omega), Int.ediv_nonneg (by omega) (by omega)⟩
theorem Kn.big (h : Kn y1 y0 U u1 q r) (hc : 4294967296 ≤ q ∨ 4294967296 * r + u1 < q * y0) : (U * 4294967296 + u1) / (y1 * 4294967296 + y0) ≤ q - 1 := by
 rcases hc with hc | hc
 ·have := h.qt; omega
 ·have hY := h.Y
  have := h.y1l; have := h.y0l
  have h1 : U * 4294967296 + u1 < q * (y1 * 4294967296 + y0) := by omega
  have := Int.ediv_lt_of_lt_mul (by omega) h1
  omega
theorem Kn.fits (h : Kn y1 y0 U u1 q r) (h1 : q < 4294967296) (hc : q * y0 ≤ 4294967296 * r + u1) : q = (U * 4294967296 + u1) / (y1 * 4294967296 + y0) := by
 have hY := h.Y
 have := h.y1l; have := h.y0l; have := h.ql
 have h1 : q * (y1 * 4294967296 + y0) ≤ U * 4294967296 + u1 := by omega
 have := (Int.le_ediv_iff_mul_le (by omega)).2 h1
 omega
theorem Kn.py (h : Kn y1 y0 U u1 q r) : 0 ≤ q * y0 ∧ q * y0 < 18446744073709551616 := by
 have h1 := h.qt; have h2 := h.ql; have h3 := h.y0l; have h4 := h.y0u; have h5 := h.qu
 have h6 : q * y0 ≤ 4294967297 * y0 := Int.mul_le_mul_of_nonneg_right h5 h3
 exact ⟨Int.mul_nonneg (by omega) h3, by omega⟩
theorem Kn.next (h : Kn y1 y0 U u1 q r) (hc : 4294967296 ≤ q ∨ 4294967296 * r + u1 < q * y0) (hr : r + y1 < 4294967296) : Kn y1 y0 U u1 (q - 1) (r + y1) := by
 refine { h with e := ?_, ql := h.big hc, qu := by have := h.qu; omega, rl := by have := h.rl; have := h.y1l; omega, ru := hr }
 rw [Int.sub_mul]; have := h.e; omega
theorem Kn.stop (h : Kn y1 y0 U u1 q r) (hc : 4294967296 ≤ q ∨ 4294967296 * r + u1 < q * y0) (hr : 4294967296 ≤ r + y1) : q - 1 = (U * 4294967296 + u1) / (y1 * 4294967296 + y0) := by
 have hY := h.Y
 have h1 := h.y1l; have h2 := h.y0l; have h3 := h.big hc; have h4 := h.qu; have h5 := h.y0u; have h6 := h.u1l
 have h7 : (q - 1) * (y1 * 4294967296 + y0) = (U - r) * 4294967296 + q * y0 - (y1 * 4294967296 + y0) := by rw [Int.sub_mul, hY]; omega
 have h8 : (q - 1) * y0 ≤ 4294967296 * y0 := Int.mul_le_mul_of_nonneg_right (by omega) h2
 rw [Int.sub_mul] at h8
 have h9 : (q - 1) * (y1 * 4294967296 + y0) ≤ U * 4294967296 + u1 := by omega
 have := (Int.le_ediv_iff_mul_le (by omega)).2 h9
 omega
theorem Kn.start (y1l : 2147483648 ≤ y1) (y1u : y1 < 4294967296) (y0l : 0 ≤ y0) (y0u : y0 < 4294967296) (u1l : 0 ≤ u1) (u1u : u1 < 4294967296) (Ul : 0 ≤ U) (Uu : U < y1 * 4294967296 + y0) :
    Kn y1 y0 U u1 (U / y1) (U - U / y1 * y1) := by
 have h1 := Int.mul_ediv_add_emod U y1
 have h2 := Int.emod_nonneg U (show y1 ≠ 0 by omega)
 have h3 := Int.emod_lt_of_pos U (show 0 < y1 by omega)
 rw [Int.mul_comm] at h1
 refine ⟨by omega, y1l, y1u, y0l, y0u, u1l, u1u, Ul, Uu, ?_, ?_, by omega, by omega⟩
 ·have h4 : U * 4294967296 + u1 < (U / y1 + 1) * (y1 * 4294967296 + y0) := by
    have h5 : 0 ≤ (U / y1 + 1) * y0 := Int.mul_nonneg (by have := Int.ediv_nonneg Ul (show 0 ≤ y1 by omega); omega) y0l
    rw [Int.mul_add, ← Int.mul_assoc, Int.add_mul, Int.one_mul]
    omega
  have := Int.ediv_lt_of_lt_mul (by omega) h4
  omega
 ·have h4 : U < 4294967298 * y1 := by omega
  have := Int.ediv_lt_of_lt_mul (by omega) h4
  omega
end
theorem bl_pow (f x : Nat) (hx : x < 2 ^ f) (h0 : x ≠ 0) : 2 ^ (Lib.bitLenAux f x - 1) ≤ x ∧ x < 2 ^ Lib.bitLenAux f x ∧ 1 ≤ Lib.bitLenAux f x ∧ Lib.bitLenAux f x ≤ f := by
 induction f generalizing x with
 | zero => omega
 | succ f ih =>
   rw [Lib.bitLenAux, if_neg h0]
   rcases Nat.eq_zero_or_pos (x / 2) with h | h
   ·rw [h]
    have : Lib.bitLenAux f 0 = 0 := by cases f <;> simp [Lib.bitLenAux]
    rw [this]
    simp; omega
   ·obtain ⟨h1, h2, h3, h4⟩ := ih (x / 2) (by rw [Nat.pow_succ] at hx; omega) (by omega)
    generalize Lib.bitLenAux f (x / 2) = b at *
    obtain ⟨b, rfl⟩ : ∃ c, b = c + 1 := ⟨b - 1, by omega⟩
    rw [show 1 + (b + 1) - 1 = b + 1 by omega, show 1 + (b + 1) = b + 2 by omega, Nat.pow_succ, Nat.pow_succ 2 (b + 1), Nat.pow_succ]
    rw [Nat.add_sub_cancel] at h1
    rw [Nat.pow_succ] at h2
    omega
theorem lead0 (y : Int) (w : World) (h0 : 0 < y) (h1 : y < 18446744073709551616) :
    Calls Tryz.prog 277 #[.int .u64 y] w fun e w' => (∃ s : Nat, s ≤ 63 ∧ 9223372036854775808 ≤ y * 2 ^ s ∧ y * 2 ^ s < 18446744073709551616 ∧ e = .returned (.int .i64 s)) ∧ w' = w := by
 refine (Tryz.bits_LeadingZeros64 y w (by omega) (by omega)).mono ?_
 rintro e w' ⟨rfl, rfl⟩
 refine ⟨?_, rfl⟩
 obtain ⟨x, rfl⟩ := Int.eq_ofNat_of_zero_le (show 0 ≤ y by omega)
 obtain ⟨h1, h2, h3, h4⟩ := bl_pow 64 x (by omega) (by omega)
 rw [Int.toNat_natCast]
 show ∃ s : Nat, _ ∧ _ ∧ _ ∧ Ending.returned (.int .i64 (64 - (Lib.bitLenAux 64 x : Int))) = _
 generalize Lib.bitLenAux 64 x = b at *
 have e1 : 2 ^ (b - 1) * 2 ^ (64 - b) = 9223372036854775808 := by rw [← Nat.pow_add, show b - 1 + (64 - b) = 63 by omega]
 have e2 : 2 ^ b * 2 ^ (64 - b) = 18446744073709551616 := by rw [← Nat.pow_add, show b + (64 - b) = 64 by omega]
 have e3 := Nat.mul_le_mul_right (2 ^ (64 - b)) h1
 have e4 := Nat.mul_lt_mul_of_pos_right h2 (Nat.pow_pos (n := 64 - b) (show 0 < 2 by omega))
 rw [e1] at e3
 rw [e2] at e4
 have e5 : ((x * 2 ^ (64 - b) : Nat) : Int) = (x : Int) * 2 ^ (64 - b) := by rw [Int.natCast_mul, Int.natCast_pow]; rfl
 refine ⟨64 - b, by omega, by omega, by omega, ?_⟩
 rw [show (64 : Int) - b = ((64 - b : Nat) : Int) by omega]
theorem and_mask (x : Int) (h0 : 0 ≤ x) (h1 : x < 18446744073709551616) : bits .and .u64 x 4294967295 = x % 4294967296 := by
 obtain ⟨n, rfl⟩ := Int.eq_ofNat_of_zero_le h0
 have := bits_and_u64_nat n 4294967295 (by omega) (by omega)
 rw [show ((4294967295 : Nat) : Int) = 4294967295 from rfl] at this
 rw [this]
 have h2 := Nat.and_two_pow_sub_one_eq_mod n 32
 rw [show (2 ^ 32 - 1 : Nat) = 4294967295 from rfl, show (2 ^ 32 : Nat) = 4294967296 from rfl] at h2
 rw [h2]; omega
theorem or_join (a b s : Nat) (hb : b < 2 ^ s) (h : a * 2 ^ s + b < 18446744073709551616) : bits .or .u64 ((a * 2 ^ s : Nat) : Int) (b : Int) = ((a * 2 ^ s + b : Nat) : Int) := by
 rw [bits_or_u64_nat _ _ (by omega) (by omega), Nat.mul_comm a, ← Nat.two_pow_add_eq_or_of_lt hb]
theorem norm_ (h l y : Int) (s : Nat) (hs : s ≤ 63) (h0 : 0 ≤ h) (hy : h < y) (l0 : 0 ≤ l) (l1 : l < 18446744073709551616) (b1 : 9223372036854775808 ≤ y * 2 ^ s) (b2 : y * 2 ^ s < 18446744073709551616) :
    ∃ U L : Int, IntKind.u64.wrap (y * 2 ^ s) = y * 2 ^ s ∧ IntKind.u64.wrap (l * 2 ^ s) = L ∧ bits .or .u64 (IntKind.u64.wrap (h * 2 ^ s)) (l / 2 ^ (64 - s)) = U ∧
     0 ≤ U ∧ U < y * 2 ^ s ∧ 0 ≤ L ∧ L < 18446744073709551616 ∧ (h * 18446744073709551616 + l) * 2 ^ s = U * 18446744073709551616 + L := by
 obtain ⟨H, rfl⟩ := Int.eq_ofNat_of_zero_le h0
 obtain ⟨M, rfl⟩ := Int.eq_ofNat_of_zero_le l0
 obtain ⟨Y, rfl⟩ := Int.eq_ofNat_of_zero_le (show 0 ≤ y by omega)
 have c1 : ((Y * 2 ^ s : Nat) : Int) = (Y : Int) * 2 ^ s := by rw [Int.natCast_mul, Int.natCast_pow]; rfl
 have c2 : ((H * 2 ^ s : Nat) : Int) = (H : Int) * 2 ^ s := by rw [Int.natCast_mul, Int.natCast_pow]; rfl
 have c3 : ((M * 2 ^ s : Nat) : Int) = (M : Int) * 2 ^ s := by rw [Int.natCast_mul, Int.natCast_pow]; rfl
 have c4 : ((M / 2 ^ (64 - s) : Nat) : Int) = (M : Int) / 2 ^ (64 - s) := by rw [Int.natCast_ediv, Int.natCast_pow]; rfl
 have c5 : (((H * 18446744073709551616 + M) * 2 ^ s : Nat) : Int) = ((H : Int) * 18446744073709551616 + M) * 2 ^ s := by rw [Int.natCast_mul, Int.natCast_pow, Int.natCast_add, Int.natCast_mul]; rfl
 rw [← c1] at b1 b2 ⊢
 rw [← c2, ← c3, ← c4, ← c5]
 have p1 : 2 ^ (64 - s) * 2 ^ s = 18446744073709551616 := by rw [← Nat.pow_add, show 64 - s + s = 64 by omega]
 have p2 : 0 < 2 ^ s := Nat.pow_pos (by omega)
 have p3 : M / 2 ^ (64 - s) < 2 ^ s := by rw [Nat.div_lt_iff_lt_mul (Nat.pow_pos (by omega)), Nat.mul_comm, p1]; omega
 have p4 : M * 2 ^ s / 18446744073709551616 = M / 2 ^ (64 - s) := by rw [← p1, Nat.mul_div_mul_right _ _ p2]
 have p5 : (H + 1) * 2 ^ s ≤ Y * 2 ^ s := Nat.mul_le_mul_right _ (by omega)
 rw [Nat.add_mul, Nat.one_mul] at p5
 have p6 := Nat.div_add_mod (M * 2 ^ s) 18446744073709551616
 rw [p4] at p6
 have p7 : (H * 18446744073709551616 + M) * 2 ^ s = H * 2 ^ s * 18446744073709551616 + M * 2 ^ s := by rw [Nat.add_mul, Nat.mul_right_comm]
 rw [p7]
 generalize Y * 2 ^ s = yy at *
 have p8 : IntKind.u64.wrap ((H * 2 ^ s : Nat) : Int) = ((H * 2 ^ s : Nat) : Int) := by rw [IntKind.wrap_u64]; omega
 rw [p8, or_join H (M / 2 ^ (64 - s)) s p3 (by omega)]
 refine ⟨_, _, by rw [IntKind.wrap_u64]; omega, rfl, rfl, by omega, by omega, ?_, ?_, ?_⟩
 ·rw [IntKind.wrap_u64]; omega
 ·rw [IntKind.wrap_u64]; omega
 ·rw [IntKind.wrap_u64]
  generalize H * 2 ^ s = hh at *
  generalize M * 2 ^ s = mm at *
  generalize M / 2 ^ (64 - s) = md at *
  omega
theorem wr3 (a v z t : Int) (h : a + v - z = t) (h0 : 0 ≤ t) (h1 : t < 18446744073709551616) :
    IntKind.u64.wrap (IntKind.u64.wrap (IntKind.u64.wrap a + v) - IntKind.u64.wrap z) = t := by
 rw [IntKind.wrap_u64, IntKind.wrap_u64, IntKind.wrap_u64, IntKind.wrap_u64, Int.emod_add_emod, ← Int.sub_emod, h]
 omega
theorem halves (U L Y q1 q0 u21 : Int) (hY : 0 < Y) (h1 : q1 = (U * 4294967296 + L / 4294967296) / Y) (h2 : u21 = U * 4294967296 + L / 4294967296 - q1 * Y) (h3 : q0 = (u21 * 4294967296 + L % 4294967296) / Y) :
    0 ≤ u21 ∧ u21 < Y ∧ q1 * 4294967296 + q0 = (U * 18446744073709551616 + L) / Y ∧ u21 * 4294967296 + L % 4294967296 - q0 * Y = (U * 18446744073709551616 + L) % Y := by
 have a1 := Int.mul_ediv_add_emod (U * 4294967296 + L / 4294967296) Y
 have a2 := Int.emod_nonneg (U * 4294967296 + L / 4294967296) (show Y ≠ 0 by omega)
 have a3 := Int.emod_lt_of_pos (U * 4294967296 + L / 4294967296) hY
 rw [← h1, Int.mul_comm] at a1
 have b1 := Int.mul_ediv_add_emod (u21 * 4294967296 + L % 4294967296) Y
 have b2 := Int.emod_nonneg (u21 * 4294967296 + L % 4294967296) (show Y ≠ 0 by omega)
 have b3 := Int.emod_lt_of_pos (u21 * 4294967296 + L % 4294967296) hY
 rw [← h3, Int.mul_comm] at b1
 have c : U * 18446744073709551616 + L = (q1 * 4294967296 + q0) * Y + (u21 * 4294967296 + L % 4294967296) % Y := by
  rw [Int.add_mul, show q1 * 4294967296 * Y = q1 * Y * 4294967296 by rw [Int.mul_assoc, Int.mul_comm 4294967296, ← Int.mul_assoc]]
  generalize q1 * Y = z at *
  omega
 refine ⟨by omega, by omega, ?_, ?_⟩
 ·rw [c, Int.add_comm ((q1 * 4294967296 + q0) * Y), Int.add_mul_ediv_right _ _ (by omega), Int.ediv_eq_zero_of_lt b2 b3, Int.zero_add]
 ·rw [c, Int.add_comm ((q1 * 4294967296 + q0) * Y), Int.add_mul_emod_self_right, Int.emod_eq_of_lt b2 b3]
  omega
theorem div64 (h l y : Int) (w : World) (h0 : 0 ≤ h) (hy : h < y) (hy2 : y < 18446744073709551616) (l0 : 0 ≤ l) (l1 : l < 18446744073709551616) :
    Calls Tryz.prog 299 #[.int .u64 h, .int .u64 l, .int .u64 y] w fun e w' => e = .returned (.tuple #[.int .u64 ((h * 18446744073709551616 + l) / y), .int .u64 ((h * 18446744073709551616 + l) % y)]) ∧ Dr w w' := by
 have hy3 : (y == 0) = false := by rw [beq_eq_false_iff_ne]; omega
 by_cases hz : h = 0
 ·subst hz
  go_enter Tryz.func299, Tryz.ntmps299
  go_wp2_with fail
  go_quiet (fail)
  go_wp2_with fail
  go_ret2
  exact ⟨by simp, by repeat (first | exact .refl _ | apply Dr.dn)⟩
 ·have hz2 : (h == 0) = false := by rw [beq_eq_false_iff_ne]; omega
  go_enter Tryz.func299, Tryz.ntmps299
  go_wp2_with fail
  refine (lead0 y w (by omega) (by omega)).mono ?_
  rintro e w' ⟨⟨s, hs, hs1, hs2, rfl⟩, rfl⟩
  obtain ⟨U, L, rY, rL, rU, U0, U1, L0, L1, eUL⟩ := norm_ h l y s hs h0 hy l0 l1 hs1 hs2
  obtain ⟨Y, hY⟩ : ∃ Y, y * 2 ^ s = Y := ⟨_, rfl⟩
  have rYY := rY.trans hY
  rw [hY] at hs1 hs2 U1
  have HY := Hd.mk hY
  have EUL := Hd.mk eUL
  clear hY eUL
  obtain ⟨y1, ey1⟩ : ∃ y1, Y / 4294967296 = y1 := ⟨_, rfl⟩
  obtain ⟨y0, ey0⟩ : ∃ y0, Y % 4294967296 = y0 := ⟨_, rfl⟩
  obtain ⟨v1, ev1⟩ : ∃ v1, L / 4294967296 = v1 := ⟨_, rfl⟩
  obtain ⟨v0, ev0⟩ : ∃ v0, L % 4294967296 = v0 := ⟨_, rfl⟩
  have rA := and_mask Y (by omega) (by omega)
  have rB := and_mask L L0 L1
  rw [ey0] at rA
  rw [ev0] at rB
  have K0 := Hd.mk (Kn.start (y1 := y1) (y0 := y0) (U := U) (u1 := v1) (by omega) (by omega) (by omega) (by omega) (by omega) (by omega) U0 (by omega))
  obtain ⟨q, eq⟩ : ∃ q, U / y1 = q := ⟨_, rfl⟩
  rw [eq] at K0
  obtain ⟨r, er⟩ : ∃ r, U - q * y1 = r := ⟨_, rfl⟩
  rw [er] at K0
  have kr0 := K0.out.rl
  have kr1 := K0.out.ru
  have rQ : IntKind.u64.wrap (U.tdiv y1) = q := by
   rw [Int.tdiv_eq_ediv_of_nonneg U0, eq, IntKind.wrap_u64]
   have := K0.out.qu; have := K0.out.ql; have := K0.out.qt
   omega
  have rP : IntKind.u64.wrap (q * y1) = q * y1 := by rw [IntKind.wrap_u64]; have := K0.out.e; have := Int.mul_nonneg (show 0 ≤ q by have := K0.out.ql; have := K0.out.qt; omega) (show 0 ≤ y1 by omega); omega
  have rR : IntKind.u64.wrap (U - q * y1) = r := by rw [IntKind.wrap_u64, er]; omega
  clear eq er
  have hy1 : (y1 == 0) = false := by rw [beq_eq_false_iff_ne]; omega
  have hy1b : 0 < y1 := by omega
  have HE := Hd.mk (And.intro ey1 (And.intro ey0 (And.intro ev1 ev0)))
  have HYb := Hd.mk (And.intro hs1 hs2)
  have hs3 : (s : Int) ≤ 63 := by omega
  have hmin : min s 64 = s := by omega
  have hmin2 : min (64 - s) 64 = 64 - s := by omega
  clear rY hs1 hs2 ey0 ev0
  obtain ⟨q1, eq1⟩ : ∃ q1, (U * 4294967296 + v1) / (y1 * 4294967296 + y0) = q1 := ⟨_, rfl⟩
  have EQ1 := Hd.mk eq1
  clear eq1
  go_upto_block 0 with (fail)
  go_cut [15, 16] (fun vq _ wx => vq = .int .u64 q1 ∧ Hd (Dr w' wx))
  case first =>
   go_wp2_with fail
   go_loop [15, 16] (fun vq vr => ∃ q r : Int, vq = .int .u64 q ∧ vr = .int .u64 r ∧ Hd (Kn y1 y0 U v1 q r)) (fun vq _ => (intOf vq).toNat)
   case atStart => exact ⟨_, _, rfl, rfl, K0⟩
   case round =>
    obtain ⟨q, r, rfl, rfl, kn⟩ := hrel
    have k1 := kn.out.py.1
    have k2 := kn.out.py.2
    have k3 := kn.out.rl
    have k4 := kn.out.ru
    have k5 : 0 ≤ q := by have := kn.out.ql; have := kn.out.qt; omega
    have k6 := kn.out.qu
    have k7 := kn.out.u1l
    have k8 := kn.out.u1u
    have k9 := kn.out.y1l
    have k10 := kn.out.y1u
    by_cases hc : 4294967296 ≤ q ∨ 4294967296 * r + v1 < q * y0
    ·have HC := Hd.mk hc
     have k11 : 1 ≤ q := by have := kn.out.big hc; have := kn.out.qt; omega
     have hq2 : decide (4294967296 ≤ q) = true ∨ (decide (4294967296 ≤ q) = false ∧ decide (4294967296 * r + v1 < q * y0) = true) := by
      by_cases hq : 4294967296 ≤ q
      ·exact .inl (decide_eq_true hq)
      ·exact .inr ⟨decide_eq_false hq, decide_eq_true (by omega)⟩
     clear hc
     by_cases hr : r + y1 < 4294967296
     ·have hr2 : decide (4294967296 ≤ r + y1) = false := decide_eq_false (by omega)
      rcases hq2 with hd | ⟨hd, hd2⟩
      all_goals
       go_wp2_with fail
       go_round
       case rel => exact ⟨_, _, rfl, rfl, ⟨kn.out.next HC.out hr⟩⟩
       case measure => simp [intOf]; omega
     ·have hr2 : decide (4294967296 ≤ r + y1) = true := decide_eq_true (by omega)
      rcases hq2 with hd | ⟨hd, hd2⟩
      all_goals
       go_wp2_with fail
       go_meet
       exact ⟨by rw [kn.out.stop HC.out (by omega), EQ1.out], ⟨.refl _⟩⟩
    ·have hq2 : decide (4294967296 ≤ q) = false := decide_eq_false (by omega)
     have hq3 : decide (4294967296 * r + v1 < q * y0) = false := decide_eq_false (by omega)
     have HF := Hd.mk (kn.out.fits (by omega) (by omega))
     clear hc
     go_wp2_with fail
     go_meet
     exact ⟨by rw [HF.out, EQ1.out], ⟨.refl _⟩⟩
  case rest =>
   obtain ⟨rfl, ⟨hdr⟩⟩ := hcut
   have hh1 := Hd.mk (halves U L Y q1 _ _ (by omega) (by rw [← EQ1.out]; obtain ⟨e1, e2, e3, e4⟩ := HE.out; rw [e3, show y1 * 4294967296 + y0 = Y by omega]) rfl rfl)
   obtain ⟨u21, eu21⟩ : ∃ u21, U * 4294967296 + L / 4294967296 - q1 * Y = u21 := ⟨_, rfl⟩
   rw [eu21] at hh1
   have hu0 := hh1.out.1
   have hu1 := hh1.out.2.1
   have EU := Hd.mk eu21
   have rT : IntKind.u64.wrap (IntKind.u64.wrap (IntKind.u64.wrap (U * 4294967296) + v1) - IntKind.u64.wrap (q1 * Y)) = u21 := by
    obtain ⟨e1, e2, e3, e4⟩ := HE.out
    rw [e3] at eu21
    exact wr3 _ _ _ _ eu21 hu0 (by have := HYb.out.2; omega)
   clear eu21
   have hYs : y1 * 4294967296 + y0 = Y := by obtain ⟨e1, e2, e3, e4⟩ := HE.out; omega
   have HYs := Hd.mk hYs
   have K1 := Hd.mk (Kn.start (y1 := y1) (y0 := y0) (U := u21) (u1 := v0) K0.out.y1l K0.out.y1u K0.out.y0l K0.out.y0u (by obtain ⟨e1, e2, e3, e4⟩ := HE.out; omega) (by obtain ⟨e1, e2, e3, e4⟩ := HE.out; omega) hu0 (by omega))
   obtain ⟨q, eq⟩ : ∃ q, u21 / y1 = q := ⟨_, rfl⟩
   rw [eq] at K1
   obtain ⟨r, er⟩ : ∃ r, u21 - q * y1 = r := ⟨_, rfl⟩
   rw [er] at K1
   have kr0 := K1.out.rl
   have kr1 := K1.out.ru
   have rQ2 : IntKind.u64.wrap (u21.tdiv y1) = q := by
    rw [Int.tdiv_eq_ediv_of_nonneg hu0, eq, IntKind.wrap_u64]
    have := K1.out.qu; have := K1.out.ql; have := K1.out.qt
    omega
   have rP2 : IntKind.u64.wrap (q * y1) = q * y1 := by rw [IntKind.wrap_u64]; have := K1.out.e; have := HYb.out.2; have := Int.mul_nonneg (show 0 ≤ q by have := K1.out.ql; have := K1.out.qt; omega) (show 0 ≤ y1 by omega); omega
   have rR2 : IntKind.u64.wrap (u21 - q * y1) = r := by rw [IntKind.wrap_u64, er]; omega
   obtain ⟨q0, eq0⟩ : ∃ q0, (u21 * 4294967296 + v0) / (y1 * 4294967296 + y0) = q0 := ⟨_, rfl⟩
   have EQ0 := Hd.mk eq0
   clear eq0 eq er hYs
   go_upto_block 2 with (fail)
   go_cut [18, 16] (fun vq _ wx => vq = .int .u64 q0 ∧ Hd (Dr w' wx))
   case first =>
    go_wp2_with fail
    go_loop [18, 16] (fun vq vr => ∃ q r : Int, vq = .int .u64 q ∧ vr = .int .u64 r ∧ Hd (Kn y1 y0 u21 v0 q r)) (fun vq _ => (intOf vq).toNat)
    case atStart => exact ⟨_, _, rfl, rfl, K1⟩
    case round =>
     obtain ⟨q, r, rfl, rfl, kn⟩ := hrel
     have k1 := kn.out.py.1
     have k2 := kn.out.py.2
     have k3 := kn.out.rl
     have k4 := kn.out.ru
     have k5 : 0 ≤ q := by have := kn.out.ql; have := kn.out.qt; omega
     have k6 := kn.out.qu
     have k7 := kn.out.u1l
     have k8 := kn.out.u1u
     have k9 := kn.out.y1l
     have k10 := kn.out.y1u
     by_cases hc : 4294967296 ≤ q ∨ 4294967296 * r + v0 < q * y0
     ·have HC := Hd.mk hc
      have k11 : 1 ≤ q := by have := kn.out.big hc; have := kn.out.qt; omega
      have hq2 : decide (4294967296 ≤ q) = true ∨ (decide (4294967296 ≤ q) = false ∧ decide (4294967296 * r + v0 < q * y0) = true) := by
       by_cases hq : 4294967296 ≤ q
       ·exact .inl (decide_eq_true hq)
       ·exact .inr ⟨decide_eq_false hq, decide_eq_true (by omega)⟩
      clear hc
      by_cases hr : r + y1 < 4294967296
      ·have hr2 : decide (4294967296 ≤ r + y1) = false := decide_eq_false (by omega)
       rcases hq2 with hd | ⟨hd, hd2⟩
       all_goals
        go_wp2_with fail
        go_round
        case rel => exact ⟨_, _, rfl, rfl, ⟨kn.out.next HC.out hr⟩⟩
        case measure => simp [intOf]; omega
      ·have hr2 : decide (4294967296 ≤ r + y1) = true := decide_eq_true (by omega)
       rcases hq2 with hd | ⟨hd, hd2⟩
       all_goals
        go_wp2_with fail
        go_meet
        exact ⟨by rw [kn.out.stop HC.out (by omega), EQ0.out], ⟨hdr⟩⟩
     ·have hq2 : decide (4294967296 ≤ q) = false := decide_eq_false (by omega)
      have hq3 : decide (4294967296 * r + v0 < q * y0) = false := decide_eq_false (by omega)
      have HF := Hd.mk (kn.out.fits (by omega) (by omega))
      clear hc
      go_wp2_with fail
      go_meet
      exact ⟨by rw [HF.out, EQ0.out], ⟨hdr⟩⟩
   case rest =>
    obtain ⟨rfl, ⟨hdr2⟩⟩ := hcut
    have hh2 := Hd.mk (halves U L Y q1 q0 u21 (by omega) (by rw [← EQ1.out]; obtain ⟨e1, e2, e3, e4⟩ := HE.out; rw [e3, HYs.out]) EU.out.symm (by rw [← EQ0.out]; obtain ⟨e1, e2, e3, e4⟩ := HE.out; rw [e4, HYs.out]))
    obtain ⟨R, eR⟩ : ∃ R, (U * 18446744073709551616 + L) % Y = R := ⟨_, rfl⟩
    have hYne : Y ≠ 0 := by omega
    have hR0 : 0 ≤ R := by rw [← eR]; exact Int.emod_nonneg _ hYne
    have hR1 : R < Y := by rw [← eR]; exact Int.emod_lt_of_pos _ (by omega)
    have rU2 : IntKind.u64.wrap (IntKind.u64.wrap (IntKind.u64.wrap (u21 * 4294967296) + v0) - IntKind.u64.wrap (q0 * Y)) = R := by
     refine wr3 _ _ _ _ ?_ hR0 (by have := HYb.out.2; omega)
     obtain ⟨e1, e2, e3, e4⟩ := HE.out
     have h4 := hh2.out.2.2.2
     rw [e4, eR] at h4
     exact h4
    have HER := Hd.mk eR
    clear eR
    go_wp2_with fail
    go_ret2
    refine ⟨?_, hdr2⟩
    show Ending.returned (.tuple #[.int .u64 (IntKind.u64.wrap (IntKind.u64.wrap (q1 * 4294967296) + q0)), .int .u64 (R / 2 ^ s)]) = _
    have pp : (0 : Int) < 2 ^ s := Int.pow_pos (by omega)
    have f1 : (U * 18446744073709551616 + L) / Y = (h * 18446744073709551616 + l) / y := by rw [← EUL.out, ← HY.out, Int.mul_ediv_mul_of_pos_left _ _ pp]
    have f2 : R = (h * 18446744073709551616 + l) % y * 2 ^ s := by rw [← HER.out, ← EUL.out, ← HY.out, Int.mul_comm, Int.mul_comm y, Int.mul_emod_mul_of_pos _ _ pp, Int.mul_comm]
    have f3 : R / 2 ^ s = (h * 18446744073709551616 + l) % y := by rw [f2, Int.mul_ediv_cancel _ (by omega)]
    have f4 : (h * 18446744073709551616 + l) / y < 18446744073709551616 := Int.ediv_lt_of_lt_mul (by omega) (by omega)
    have f5 : 0 ≤ (h * 18446744073709551616 + l) / y := Int.ediv_nonneg (by omega) (by omega)
    rw [f3, IntKind.wrap_u64, IntKind.wrap_u64, Int.emod_add_emod, hh2.out.2.2.1, f1, Int.emod_eq_of_lt f5 f4]
end Go.Proofs.YtgjkgkgieeoalaaGreat
