/- Parts of the proof, joined: each theorem says what it shows. -/
import Derived.Test.YtgjkgkgieeoalaaGreatC05
import Derived.RegionCalls
import Derived.Deep.RegionWith
set_option linter.unusedVariables false
set_option linter.unusedSimpArgs false
set_option maxHeartbeats 24000000
set_option maxRecDepth 100000
namespace Go.Proofs.YtgjkgkgieeoalaaGreat
open Go.RowKit
def bor (x y b : Int) : Int := if x < y + b then 1 else 0
def sub64Entry : Array Value → Sem Value := fun args => do
 let (x, y, b) ← Extern.MathBitsCarry.three "Sub64" args
 pure (Extern.MathBitsCarry.pair ((x + Extern.MathBitsCarry.m64 - y - b) % Extern.MathBitsCarry.m64) (if x < y + b then 1 else 0))
theorem run_sub64' {P : Program} (x y b : Nat) (hb : b ≤ 1) (w : World) :
    (sub64Entry #[.int .u64 x, .int .u64 y, .int .u64 b]).run P w =
     .ok (.tuple #[.int .u64 (((x + 18446744073709551616 - y - b) % 18446744073709551616 : Nat) : Int), .int .u64 ((if x < y + b then 1 else 0 : Nat) : Int)]) w := by
 have : b = 0 ∨ b = 1 := by omega
 rcases this with rfl | rfl <;> rfl
theorem sub64 (x y b : Int) (hx : 0 ≤ x) (hy : 0 ≤ y) (hy' : y < 18446744073709551616) (hb0 : 0 ≤ b) (hb : b ≤ 1) (w : World) : (callFunc 317 #[.int .u64 x, .int .u64 y, .int .u64 b]).run Tryz.prog w =
    .ok (.value (.tuple #[.int .u64 ((x - y - b) % 18446744073709551616), .int .u64 (bor x y b)])) w := by
 obtain ⟨x, rfl⟩ := Int.eq_ofNat_of_zero_le hx
 obtain ⟨y, rfl⟩ := Int.eq_ofNat_of_zero_le hy
 obtain ⟨b, rfl⟩ := Int.eq_ofNat_of_zero_le hb0
 have e1 : (((x + 18446744073709551616 - y - b) % 18446744073709551616 : Nat) : Int) = ((x : Int) - y - b) % 18446744073709551616 := by omega
 have e2 : ((if x < y + b then 1 else 0 : Nat) : Int) = bor x y b := by unfold bor; split <;> split <;> omega
 rw [← e1, ← e2, run_callFunc_extern Tryz.func317 (by kernel_rfl) (by kernel_rfl) (by kernel_rfl) (e := sub64Entry) (by kernel_rfl), run_sub64' x y b (by omega)]
 simp only [Result.andThen]
theorem sum_1 (g gs gc i n c : Nat) (x y cy : Int) (w : World) (hi : i < n) (hn9 : n ≤ 2000000000)
    (h1 : w.cell? ⟨gs, 0, none⟩ = some (.slice (some ⟨g, 0, none⟩) n c)) (h2 : w.cell? ⟨g, i, none⟩ = some (.int .u64 x)) (h3 : w.cell? ⟨gc, 0, none⟩ = some (.int .u64 cy))
    (f2 : w.frozen? ⟨g, i, none⟩ = false) (f3 : w.frozen? ⟨gc, 0, none⟩ = false) (hne : g ≠ gc)
    (hx : 0 ≤ x) (hy : 0 ≤ y) (hc0 : 0 ≤ cy) (hc1 : cy ≤ 1) :
    Calls Tryz.prog 273 #[.int .i64 i, .int .u64 y, .pointer (some ⟨gs, 0, none⟩), .pointer (some ⟨gc, 0, none⟩)] w fun e w' => e = .returned (.tuple #[]) ∧
     w' = ((w.setCell ⟨g, i, none⟩ (.int .u64 ((x + y + cy) % 18446744073709551616))).setCell ⟨gc, 0, none⟩ (.int .u64 ((x + y + cy) / 18446744073709551616))).drew := by
 have hi2 : (i : Int) < n := by omega
 go_enter Tryz.func273, Tryz.ntmps273
 go_wp2_with fail
 have ha := add64 x y cy hx hy hc0 hc1
 go_region
 go_end0
 exact ⟨rfl, rfl⟩
theorem sub_1 (g gs gc i n c : Nat) (x y cy : Int) (w : World) (hi : i < n) (hn9 : n ≤ 2000000000)
    (h1 : w.cell? ⟨gs, 0, none⟩ = some (.slice (some ⟨g, 0, none⟩) n c)) (h2 : w.cell? ⟨g, i, none⟩ = some (.int .u64 x)) (h3 : w.cell? ⟨gc, 0, none⟩ = some (.int .u64 cy))
    (f2 : w.frozen? ⟨g, i, none⟩ = false) (f3 : w.frozen? ⟨gc, 0, none⟩ = false) (hne : g ≠ gc)
    (hx : 0 ≤ x) (hy : 0 ≤ y) (hy2 : y < 18446744073709551616) (hc0 : 0 ≤ cy) (hc1 : cy ≤ 1) :
    Calls Tryz.prog 316 #[.int .i64 i, .int .u64 y, .pointer (some ⟨gs, 0, none⟩), .pointer (some ⟨gc, 0, none⟩)] w fun e w' => e = .returned (.tuple #[]) ∧
     w' = ((w.setCell ⟨g, i, none⟩ (.int .u64 ((x - y - cy) % 18446744073709551616))).setCell ⟨gc, 0, none⟩ (.int .u64 (bor x y cy))).drew := by
 have hi2 : (i : Int) < n := by omega
 have ha := sub64 x y cy hx hy hy2 hc0 hc1
 go_enter Tryz.func316, Tryz.ntmps316
 go_wp2_with fail
 go_region
 go_end0
 exact ⟨rfl, rfl⟩
theorem limb_Sub_lt (A B : Option Addr) (c d : Nat) (l m : List Int) (w : World) (h : RdI w .u64 A l) (hn : l.length ≤ c) (hb9 : l.length ≤ 1000000000)
    (h' : RdI w .u64 B m) (hn' : m.length ≤ d) (hb9' : m.length ≤ 1000000000) (hu : U64 l) (hu' : U64 m) (hlt : val l < val m) :
    Calls Tryz.prog 301 #[.slice A l.length c, .slice B m.length d] w fun e w' => e = .returned (.tuple #[.slice none 0 0, .bool false]) ∧ Dr w w' := by
 have e0 := cmpN_lt hlt
 have C := limb_Cmp A B c d l m w h hn hb9 h' hn' hb9' hu hu'
 rw [e0] at C
 go_enter Tryz.func301, Tryz.ntmps301
 go_wp2_with fail
 refine C.mono ?_
 rintro e w' ⟨rfl, hw⟩
 go_wp2_with fail
 go_ret2
 exact ⟨rfl, hw⟩
theorem limb_Sub_ge (A B : Option Addr) (c d : Nat) (l m : List Int) (w : World) (h : RdI w .u64 A l) (hn : l.length ≤ c) (hb9 : l.length ≤ 1000000000)
    (h' : RdI w .u64 B m) (hn' : m.length ≤ d) (hb9' : m.length ≤ 1000000000) (hu : U64 l) (hu' : U64 m) (hge : val m ≤ val l) :
    Calls Tryz.prog 301 #[.slice A l.length c, .slice B m.length d] w fun e w' => ∃ v, e = .returned (.tuple #[v, .bool true]) ∧ OwnI w' w.heap.size 112 .u64 v (limbs (val l - val m)) ∧ Below w.heap.size w w' := by
 have C : Calls Tryz.prog 272 #[.slice A l.length c, .slice B m.length d] w fun e w' => (∃ r : Int, 0 ≤ r ∧ e = .returned (.int .i64 r)) ∧ Dr w w' :=
  (limb_Cmp A B c d l m w h hn hb9 h' hn' hb9' hu hu').mono fun e w' ⟨he, hw⟩ => ⟨⟨_, by unfold cmpN; split <;> (try split) <;> omega, he⟩, hw⟩
 have HGE := Hd.mk hge
 clear hge
 have tl := trimL_len l
 have E1 := Hd.mk (val_trim l)
 have U1 : Hd (U64 (trimL l)) := ⟨by rw [trimL_take]; exact hu.take _⟩
 go_enter Tryz.func301, Tryz.ntmps301
 go_wp2_with fail
 refine C.mono ?_
 rintro e w' ⟨⟨r, hr, rfl⟩, hw⟩
 have hr2 : decide (r < 0) = false := decide_eq_false (by omega)
 have HW := Hd.mk hw.below
 have h1 := Hd.mk (h.up hw.below)
 have h2 := Hd.mk (h'.up hw.below)
 have HM0 := Hd.mk h'
 have hsz := hw.below.size
 clear hw h h' C
 go_wp2_with fail
 refine (limb_Trim A c l w' h1.out hn hb9).mono ?_
 rintro e w2 ⟨v, rfl, ho, hb⟩
 have HO := Hd.mk (ho.low hsz)
 have HB := Hd.mk (HW.out.trans (hb.mono hsz))
 have h3 := Hd.mk (h2.out.up hb)
 clear ho hb hsz h1 h2 hr hr2
 obtain ⟨x0, hx0⟩ : ∃ x0, x0 = trimL l := ⟨_, rfl⟩
 rw [← hx0] at HO E1 U1 tl
 have hl9 : x0.length ≤ 1000000000 := by omega
 clear hx0
 obtain ⟨A1, c1, rfl, hc1, hm1, hr1⟩ := HO.out.reads
 clear hr1 hc1 hm1
 go_wp2_with fail
 have LT := Hd.mk (fun k hk => (World.ownsRow.lt HO.out k hk).2)
 have hne1 : w2.heap.size ≠ w2.heap.size + 1 := by omega
 have hbase := Hd.mk HB.out.size
 go_loopw [19] (fun v19 wr => ∃ (xs : List Int) (i : Nat) (b : Int), v19 = .int .i64 i ∧ i ≤ x0.length ∧ Hd (xs.length = x0.length) ∧ Hd (b = 0 ∨ b = 1) ∧ Hd (Bk wr w2.heap.size 61 #[.slice A1 x0.length c1]) ∧
     Hd (Bk wr (w2.heap.size + 1) 112 #[.int .u64 b]) ∧ Hd (OwnI wr w.heap.size 112 .u64 (.slice A1 x0.length c1) xs) ∧ Hd (Below w.heap.size w wr) ∧ Hd (U64 xs) ∧
     Hd (val xs + val (m.take i) = val l + 18446744073709551616 ^ i * b.toNat)) (fun v _ => x0.length - (intOf v).toNat)
 case atStart =>
  refine ⟨x0, 0, 0, rfl, by omega, ⟨rfl⟩, ⟨.inl rfl⟩, ⟨(Bk.new_ _ _ _).al _⟩, ⟨?_⟩, ⟨(HO.out.al _).al _⟩, ⟨(HB.out.alloc hbase.out _).alloc (by have := hbase.out; simp; omega) _⟩, U1, ⟨by rw [E1.out]; simp [val]⟩⟩
  have := Bk.new_ (w2.alloc (.cells #[.slice A1 x0.length c1] 61)) 112 #[.int .u64 0]
  rwa [World.size_alloc] at this
 case round =>
  obtain ⟨xs, i, b, rfl, hi, hlen, hb01, hk1, hk2, hown, hbel, hxu, heq⟩ := hrel
  by_cases hlt : i < x0.length
  ·obtain ⟨g, c6, x, hv, hg1, hg2, hx, hcell, hfro, hset⟩ := hown.out.cell (i := i) (by have := hlen.out; omega)
   injection hv with hv1 hv2 hv3
   subst hv1 hv3
   have hgl := LT.out g rfl
   have HS := Hd.mk hset
   have hc1 := hk1.out.cell 0
   have hc2 := hk2.out.cell 0
   have hf2 := hk2.out.froz 0
   have hx0 := hxu.out.at_ i
   rw [hx.out] at hx0
   obtain ⟨y, hy⟩ : ∃ y, m.getD i 0 = y := ⟨_, rfl⟩
   have hy0 := hu'.at_ i
   rw [hy] at hy0
   have HY := Hd.mk hy
   have hb2 := hb01.out
   have CC := Hd.mk (sub_1 g w2.heap.size (w2.heap.size + 1) i x0.length c1 x y b wr hlt (by omega) (by simpa using hc1) hcell (by simpa using hc2) hfro hf2 (by omega) hx0.1 hy0.1 hy0.2 (by omega) (by omega))
   have HM := Hd.mk (HM0.out.up hbel.out)
   clear hset hc1 hc2 hf2 hy hb2 hx0 hy0 hcell hfro hv2
   by_cases hlm : i < m.length
   ·obtain ⟨bd, y2, rfl, _, hy2, hcb⟩ := HM.out.get hlm
    have hyy : y2 = y := by rw [← hy2.out, HY.out]
    subst hyy
    go_wp2_with fail
    refine CC.out.mono ?_
    rintro e w3 ⟨rfl, rfl⟩
    go_wp2_with fail
    go_roundw
    case measure => first | (simp [intOf]; done) | (simp [intOf]; omega)
    case rel =>
     obtain ⟨q1, q2, q3⟩ := sub_step (s := (x - y2 - b) % 18446744073709551616) (c' := bor x y2 b) (c := b) (va := val l) (by have := hlen.out; omega) hxu.out hu' hb01.out (by rw [hx.out, HY.out]) (by rw [hx.out, HY.out]; rfl) heq.out
     exact ⟨_, i + 1, _, by go_num, by omega, ⟨by rw [List.length_set]; exact hlen.out⟩, ⟨q2⟩, ⟨(((hk1.out.far (p := ⟨g, i, none⟩) (by simp; omega) _).far (p := ⟨w2.heap.size + 1, 0, none⟩) (by simp) _).d1)⟩, ⟨((hk2.out.far (p := ⟨g, i, none⟩) (by simp; omega) _).set_ 0 _).d1⟩,
      ⟨by have := hlen.out; rw [← hlen.out]; exact (((HS.out _).far (p := ⟨w2.heap.size + 1, 0, none⟩) (by simp [Value.ownBlock]; omega) _).d1)⟩, ⟨((hbel.out.setCell hg1 _).setCell (by have := hbase.out; simp; omega) _).drew⟩, ⟨q1⟩, ⟨q3⟩⟩
   ·have hyy : y = 0 := by rw [← HY.out]; exact getD_out (by omega)
    subst hyy
    go_wp2_with fail
    refine CC.out.mono ?_
    rintro e w3 ⟨rfl, rfl⟩
    go_wp2_with fail
    go_roundw
    case measure => first | (simp [intOf]; done) | (simp [intOf]; omega)
    case rel =>
     obtain ⟨q1, q2, q3⟩ := sub_step (s := (x - b) % 18446744073709551616) (c' := bor x 0 b) (c := b) (va := val l) (by have := hlen.out; omega) hxu.out hu' hb01.out (by rw [hx.out, HY.out, Int.sub_zero]) (by rw [hx.out, HY.out]; rfl) heq.out
     exact ⟨_, i + 1, _, by go_num, by omega, ⟨by rw [List.length_set]; exact hlen.out⟩, ⟨q2⟩, ⟨(((hk1.out.far (p := ⟨g, i, none⟩) (by simp; omega) _).far (p := ⟨w2.heap.size + 1, 0, none⟩) (by simp) _).d1)⟩, ⟨((hk2.out.far (p := ⟨g, i, none⟩) (by simp; omega) _).set_ 0 _).d1⟩,
      ⟨by have := hlen.out; rw [← hlen.out]; exact (((HS.out _).far (p := ⟨w2.heap.size + 1, 0, none⟩) (by simp [Value.ownBlock]; omega) _).d1)⟩, ⟨((hbel.out.setCell hg1 _).setCell (by have := hbase.out; simp; omega) _).drew⟩, ⟨q1⟩, ⟨q3⟩⟩
  ·have hc1 : wr.cell? ⟨w2.heap.size, 0, none⟩ = some (.slice A1 x0.length c1) := by rw [hk1.out.cell 0]; rfl
   have hie : i = x0.length := by omega
   obtain ⟨A7, c7, hv, hc7, hm7, hr7⟩ := hown.out.reads
   injection hv with hv1 hv2 hv3
   subst hv1 hv3
   have HR := Hd.mk hr7
   have HL2 := hlen.out
   clear hr7 hv2
   have CC := Hd.mk (fun W h => limb_trim A1 c1 xs W h hc7 (by omega))
   rw [HL2] at CC
   go_wp2_with fail
   refine (CC.out _ HR.out).mono ?_
   rintro e w3 ⟨rfl, rfl⟩
   go_wp2_with fail
   go_ret2
   refine ⟨_, rfl, ?_, hbel.out⟩
   have hvl := val_lt U1.out
   rw [E1.out] at hvl
   have h5 := sub_end hxu.out hu hu' hlen.out hvl hb01.out HGE.out (by rw [← hie]; exact heq.out)
   rw [← h5, ← trim_limbs hxu.out]
   have h6 := hown.out.pre (trimL_len xs)
   rw [← trimL_take] at h6
   exact h6
structure SumSt (base P0 P1 : Nat) (v : Value) (wr : World) (os : List Int) (cy : Int) : Prop where
 k0 : Bk wr P0 61 #[v]
 k1 : Bk wr P1 112 #[.int .u64 cy]
 own : OwnI wr base 112 .u64 v os
 ne : v.ownBlock ≠ some P1
 u : U64 os
 c01 : cy = 0 ∨ cy = 1
theorem carry_step {os : List Int} {i : Nat} {s c' y cy : Int} (hi : i < os.length) (hu : U64 os) (hy : 0 ≤ y) (hc : 0 ≤ cy) (hs : 0 ≤ s) (hc' : 0 ≤ c') (h : s + 18446744073709551616 * c' = os.getD i 0 + y + cy) :
    val (os.set i s) + 18446744073709551616 ^ (i + 1) * c'.toNat = val os + 18446744073709551616 ^ i * (y.toNat + cy.toNat) := by
 have h3 := val_set os i hi s
 have h1 := hu.at_ i
 rw [Nat.pow_succ]
 generalize val (os.set i s) = z at *
 generalize 18446744073709551616 ^ i = p at *
 generalize os.getD i 0 = xi at *
 have e : s.toNat + 18446744073709551616 * c'.toNat = xi.toNat + (y.toNat + cy.toNat) := by omega
 have e2 := congrArg (p * ·) e
 simp only [Nat.mul_add] at e2
 rw [← Nat.mul_assoc] at e2
 rw [Nat.mul_add]
 generalize p * s.toNat = q1 at *
 generalize p * 18446744073709551616 * c'.toNat = q2 at *
 omega
theorem sum_add (base P0 P1 i : Nat) (iI : Int) (hI : iI = i) (v : Value) (os : List Int) (y cy : Int) (w : World) (h : SumSt base P0 P1 v w os cy) (hi : i < os.length) (h9 : os.length ≤ 2000000000) (hy : 0 ≤ y ∧ y < 18446744073709551616) (hb1 : base ≤ P1) :
    Calls Tryz.prog 273 #[.int .i64 iI, .int .u64 y, .pointer (some ⟨P0, 0, none⟩), .pointer (some ⟨P1, 0, none⟩)] w fun e w' => e = .returned (.tuple #[]) ∧
     ∃ s c', SumSt base P0 P1 v w' (os.set i s) c' ∧ Below base w w' ∧ val (os.set i s) + 18446744073709551616 ^ (i + 1) * c'.toNat = val os + 18446744073709551616 ^ i * (y.toNat + cy.toNat) ∧ (i < os.length → os.getD i 0 = 0 → y = 0 → c' = 0) := by
 subst hI
 obtain ⟨g, c, x, rfl, hg1, hg2, hx, hcell, hfro, hset⟩ := h.own.cell hi
 have hx0 := h.u.at_ i
 rw [hx.out] at hx0
 have hcy := h.c01
 have hne : g ≠ P1 := fun e => h.ne (by rw [e]; rfl)
 have hne0 : g ≠ P0 := fun e => own_ne h.own h.k0 (by decide) (by rw [e]; rfl)
 have h01 : P0 ≠ P1 := Bk.ne_ h.k0 h.k1 (by decide)
 refine (sum_1 g P0 P1 i os.length c x y cy w hi h9 (by rw [h.k0.cell 0]; rfl) hcell (by rw [h.k1.cell 0]; rfl) hfro (h.k1.froz 0) hne hx0.1 hy.1 (by omega) (by omega)).mono ?_
 rintro e w' ⟨rfl, rfl⟩
 refine ⟨rfl, (x + y + cy) % 18446744073709551616, (x + y + cy) / 18446744073709551616, ⟨?_, ?_, ?_, h.ne, ?_, ?_⟩, ?_, ?_, ?_⟩
 ·exact ((h.k0.far (p := ⟨g, i, none⟩) (Ne.symm hne0) _).far (p := ⟨P1, 0, none⟩) h01 _).d1
 ·exact ((h.k1.far (p := ⟨g, i, none⟩) (Ne.symm hne) _).set_ 0 _).d1
 ·exact (((hset _).far (p := ⟨P1, 0, none⟩) (by simpa [Value.ownBlock] using hne) _).d1)
 ·exact h.u.set i (by omega) (by omega)
 ·omega
 ·exact (((Below.refl base w).setCell hg1 _).setCell hb1 _).drew
 ·exact carry_step hi h.u hy.1 (by omega) (by omega) (by omega) (by rw [hx.out]; omega)
 ·intro _ h0 hy0
  rw [hx.out] at h0
  subst h0 hy0
  omega
def RdRows (w : World) (A : Option Addr) (rs : List (List Int)) : Prop :=
 ∃ cs, Rd w w.heap.size 1 A rs.length cs ∧ ∀ (j : Nat) (r : List Int), rs[j]? = some r → ∃ a c, cs[j]? = some (.slice a r.length c) ∧ r.length ≤ c ∧ RdI w .u64 a r
theorem RdRows.up {w w' : World} {A : Option Addr} {rs : List (List Int)} (h : RdRows w A rs) (hb : Below w.heap.size w w') : RdRows w' A rs := by
 obtain ⟨cs, h1, h2⟩ := h
 refine ⟨cs, h1.up hb, fun j r hr => ?_⟩
 obtain ⟨a, c, e, hc, hr⟩ := h2 j r hr
 exact ⟨a, c, e, hc, hr.up hb⟩
theorem RdRows.get {w : World} {A : Option Addr} {rs : List (List Int)} (h : RdRows w A rs) {j : Nat} (hj : j < rs.length) :
    ∃ (ad : Addr) (a : Option Addr) (r : List Int) (c : Nat), A = some ad ∧ ad.block < w.heap.size ∧ w.cell? (ad.add j) = some (.slice a r.length c) ∧ Hd (rs[j]? = some r) ∧ r.length ≤ c ∧ Hd (RdI w .u64 a r) := by
 obtain ⟨cs, h1, h2⟩ := h
 obtain ⟨ad, e, hb, hc⟩ := h1.2 (by omega)
 obtain ⟨a, c, e2, hc2, hr⟩ := h2 j rs[j] (List.getElem?_eq_getElem hj)
 exact ⟨ad, a, rs[j], c, e, hb, hc j _ e2, ⟨List.getElem?_eq_getElem hj⟩, hc2, ⟨hr⟩⟩
def rowsVal : List (List Int) → Nat
 | [] => 0
 | r :: rs => val r + 18446744073709551616 * rowsVal rs
theorem rowsVal_snoc (rs : List (List Int)) (r : List Int) : rowsVal (rs ++ [r]) = rowsVal rs + 18446744073709551616 ^ rs.length * val r := by
 induction rs with
 | nil => simp [rowsVal]
 | cons x rs ih =>
   simp only [List.cons_append, rowsVal, ih, List.length_cons, Nat.pow_succ, Nat.mul_add]
   rw [show 18446744073709551616 ^ rs.length * 18446744073709551616 * val r = 18446744073709551616 * (18446744073709551616 ^ rs.length * val r) by rw [Nat.mul_comm (18446744073709551616 ^ rs.length), Nat.mul_assoc]]
   omega
theorem limb_sum (A : Option Addr) (c : Nat) (rs : List (List Int)) (w : World) (h : RdRows w A rs) (hn : rs.length ≤ c) (h6 : rs.length ≤ 100000000) (hr6 : ∀ r ∈ rs, r.length ≤ 100000000 ∧ U64 r) :
    Calls Tryz.prog 230 #[.slice A rs.length c] w fun e w' => ∃ v, e = .returned v ∧ OwnI w' w.heap.size 112 .u64 v (limbs (rowsVal rs)) ∧ Below w.heap.size w w' := by
 obtain ⟨i0, hi, hz0, hz1, hz2⟩ := info_split Tryz.infU64
 have H := Hd.mk h
 have HR6 := Hd.mk hr6
 clear h hr6
 go_enter Tryz.func230, Tryz.ntmps230
 go_wp2_with fail
 go_loopw [13] (fun v13 wr => ∃ (v : Value) (os : List Int) (f : Nat), v13 = .int .i64 f ∧ f ≤ rs.length ∧ Hd (Bk wr w.heap.size 61 #[v]) ∧ Hd (OwnI wr w.heap.size 112 .u64 v os) ∧ Hd (U64 os) ∧
     Hd (os.length ≤ 100000000 + f) ∧ Hd (Below w.heap.size w wr) ∧ Hd (val os = rowsVal (rs.take f))) (fun v _ => rs.length - (intOf v).toNat)
 case atStart => exact ⟨_, [], 0, rfl, by omega, ⟨Bk.new_ _ _ _⟩, ⟨OwnI.nil _ _ _ _⟩, ⟨.nil⟩, ⟨by simp⟩, ⟨(Below.refl _ _).alloc (Nat.le_refl _) _⟩, ⟨by simp [val, rowsVal]⟩⟩
 case round =>
  obtain ⟨v, os, f, rfl, hf, hk0, hown, hu, hlen, hbel, hval⟩ := hrel
  obtain ⟨wo, rfl⟩ : ∃ wo : World, wo = wr := ⟨_, rfl⟩
  by_cases hlt : f < rs.length
  ·obtain ⟨ad, a, r, cr, rfl, hadb, hcellw, hr, hcr, hrd⟩ := H.out.get hlt
   have hcell := (hbel.out.cell (p := ad.add f) (by rw [add_block]; exact hadb)).trans hcellw
   clear hcellw hadb
   have hrdo := Hd.mk (hrd.out.up hbel.out)
   have hr7 := HR6.out r (List.mem_of_getElem? hr.out)
   have hr8 := hr7.1
   have hru := Hd.mk hr7.2
   clear hr7
   go_wp2_with fail
   refine (limb_trim a cr r wo hrdo.out hcr (by omega)).mono ?_
   rintro e w' ⟨rfl, rfl⟩
   obtain ⟨t, ht⟩ : ∃ t, t = trimL r := ⟨_, rfl⟩
   have HT := Hd.mk ht
   rw [← ht]
   have htl := trimL_len r
   rw [← ht] at htl
   have hrt := Hd.mk hrd.out.trim
   rw [← ht] at hrt
   have htu : Hd (U64 t) := ⟨by rw [ht, trimL_take]; exact hru.out.take _⟩
   have htv : Hd (val t = val r) := ⟨by rw [ht, val_trim]⟩
   clear ht hcell
   go_wp2_with fail
   have hwo := Hd.mk hbel.out.size
   go_loopg [29] (f + t.length - os.length) (fun g _ wr => ∃ (v2 : Value) (os2 : List Int), Hd (Bk wr w.heap.size 61 #[v2]) ∧ Hd (OwnI wr w.heap.size 112 .u64 v2 os2) ∧ Hd (U64 os2) ∧
    Hd (os2.length ≤ 100000000 + f) ∧ Hd (Below w.heap.size w wr) ∧ Hd (val os2 = val os) ∧ Hd (g = f + t.length - os2.length))
   case atStart => exact ⟨v, os, hk0, hown, hu, hlen, hbel, ⟨rfl⟩, ⟨rfl⟩⟩
   case round =>
    obtain ⟨v2, os2, hk2, hown2, hu2, hlen2, hbel2, hval2, hg⟩ := hrel
    obtain ⟨A5, c5, rfl, hc5, hm5, hr5⟩ := hown2.out.reads
    clear hr5
    have hc1 : wr.cell? ⟨w.heap.size, 0, none⟩ = some (.slice A5 os2.length c5) := by rw [hk2.out.cell 0]; rfl
    have hf1 := hk2.out.froz 0
    have hl9 := hlen2.out
    by_cases hlt2 : os2.length < f + t.length
    ·have hlt3 : (os2.length : Int) < f + t.length := by omega
     go_wp2_with (at_builtin; refine wpList_append_rd _ rfl _ _ 61 rfl w.heap.size 112 i0 (.int .u64 0) 1 8 Tryz.slU64 hi hz0 hz1 hz2 rfl (by decide) _ _ _ rfl (hown2.out.al _) _ _ 1 1 (ints .u64 [0]) rfl (Rd.new_ wr #[.int .u64 0] 112 1 1 rfl) (ints_one _ _) ?c1 ?c2 ?c3 ?_)
     case c1 => unfold maxLen; omega
     case c2 => omega
     case c3 => have := hbel2.out.size; simp; omega
     intro v' w' ho hg2 _
     have HO : Hd (OwnI w' w.heap.size 112 .u64 v' (os2 ++ [0])) := ⟨by unfold OwnI; rw [ints_app, List.length_append]; exact ho⟩
     have hk3 : Hd (Bk w' w.heap.size 61 #[.slice A5 os2.length c5]) := ⟨(hk2.out.al _).grown hg2 (fun e => own_ne hown2.out hk2.out (by decide) e.symm)⟩
     have hb3 : Hd (Below w.heap.size w w') := ⟨grown_below (hown2.out.al _) hg2 (hbel2.out.alloc hbel2.out.size _) (by have := hbel2.out.size; simp; omega)⟩
     have hc4 : w'.cell? ⟨w.heap.size, 0, none⟩ = some (.slice A5 os2.length c5) := by rw [hk3.out.cell 0]; rfl
     have hf4 := hk3.out.froz 0
     clear ho hg2
     obtain ⟨A8, c8, hv8, hc8, _, _⟩ := HO.out.reads
     rw [List.length_append, List.length_singleton] at hv8
     subst hv8
     go_wp2_with fail
     go_roundg (f + t.length - (os2.length + 1))
     case measure => have := hg.out; omega
     case rel =>
      exact ⟨_, os2 ++ [0], ⟨hk3.out.set_ 0 _⟩, ⟨HO.out.far (p := ⟨w.heap.size, 0, none⟩) (own_ne HO.out hk3.out (by decide)) _⟩, ⟨hu2.out.app (U64.nil.cons (by omega) (by omega))⟩, ⟨by simp; omega⟩, ⟨hb3.out.setCell (Nat.le_refl _) _⟩, ⟨by rw [val_snoc0]; exact hval2.out⟩, ⟨by simp⟩⟩
    ·have hlt3 : ¬ (os2.length : Int) < f + t.length := by omega
     go_wp2_with fail
     have hB2 := hbel2.out.size
     have hP1 := Hd.mk (Bk.new_ wr 112 #[.int .u64 0])
     have hne5 : (Value.slice A5 os2.length c5).ownBlock ≠ some wr.heap.size := by
      intro e
      have := (World.ownsRow.lt hown2.out _ e).2
      omega
     have hst : Hd (SumSt w.heap.size w.heap.size wr.heap.size (.slice A5 os2.length c5) (wr.alloc (.cells #[.int .u64 0] 112)) os2 0) :=
      ⟨⟨hk2.out.al _, hP1.out, hown2.out.al _, hne5, hu2.out, .inl rfl⟩⟩
     have hb4 : Hd (Below w.heap.size w (wr.alloc (.cells #[.int .u64 0] 112))) := ⟨hbel2.out.alloc hB2 _⟩
     obtain ⟨w2, rfl⟩ : ∃ w2 : World, w2 = wr := ⟨_, rfl⟩
     clear hP1 hne5 hc1 hf1 hm5 hc5
     go_loopw [33] (fun v33 wx => ∃ (os3 : List Int) (i : Nat) (cy : Int), v33 = .int .i64 i ∧ i ≤ t.length ∧ Hd (SumSt w.heap.size w.heap.size w2.heap.size (.slice A5 os2.length c5) wx os3 cy) ∧ Hd (os3.length = os2.length) ∧ Hd (Below w.heap.size w wx) ∧
      Hd (val os3 + 18446744073709551616 ^ (f + i) * cy.toNat = val os + 18446744073709551616 ^ f * val (t.take i))) (fun v _ => t.length - (intOf v).toNat)
     case atStart => exact ⟨os2, 0, 0, rfl, by omega, hst, ⟨rfl⟩, hb4, ⟨by rw [hval2.out]; simp [val]⟩⟩
     case round =>
      obtain ⟨os3, i, cy, rfl, hi3, hst3, hlen3, hbel3, hval3⟩ := hrel
      have hl3 := hlen3.out
      by_cases hlt4 : i < t.length
      ·have HT3 := Hd.mk (hrt.out.up hbel3.out)
       obtain ⟨bd, y, rfl, _, hy, hcy⟩ := HT3.out.get hlt4
       have hyu := htu.out.at_ i
       rw [hy.out] at hyu
       have hfi : f + i < os3.length := by omega
       have hP2 : w.heap.size ≤ w2.heap.size := hB2
       have CC := Hd.mk (sum_add w.heap.size w.heap.size w2.heap.size (f + i) ((f : Int) + i) (by omega) (.slice A5 os2.length c5) os3 y cy wr hst3.out hfi (by have := hlen2.out; omega) hyu hP2)
       go_wp2_with fail
       with_reducible refine (CC.out).mono ?_
       rintro e w3 ⟨rfl, s1, c1, q1, q2, q3, q4⟩
       have Q1 := Hd.mk q1
       have Q2 := Hd.mk q2
       have Q3 := Hd.mk q3
       clear q1 q2 q3 q4
       go_wp2_with fail
       go_roundw
       case measure => first | (simp [intOf]; done) | (simp [intOf]; omega)
       case rel =>
        refine ⟨_, i + 1, c1, by go_num, by omega, Q1, ⟨by rw [List.length_set]; exact hlen3.out⟩, ⟨hbel3.out.trans Q2.out⟩, ⟨?_⟩⟩
        rw [← Nat.add_assoc, Q3.out, val_take_succ, hy.out, Nat.mul_add, Nat.mul_add]
        have h8 := hval3.out
        rw [show 18446744073709551616 ^ f * (18446744073709551616 ^ i * y.toNat) = 18446744073709551616 ^ (f + i) * y.toNat by rw [Nat.pow_add, Nat.mul_assoc]]
        omega
      ·have hie : i = t.length := by omega
       subst hie
       go_wp2_with fail
       have hl2 := hlen2.out
       have hge2 : f + t.length ≤ os2.length := by omega
       have hP2 : w.heap.size ≤ w2.heap.size := hB2
       go_loopw [10] (fun v10 wx => ∃ (v4 : Value) (os4 : List Int) (i : Nat) (iI cy : Int), v10 = .int .i64 iI ∧ Hd (iI = i) ∧ Hd (SumSt w.heap.size w.heap.size w2.heap.size v4 wx os4 cy) ∧ Hd (os4.length = max os2.length i) ∧
        Hd (Below w.heap.size w wx) ∧ Hd (val os4 + 18446744073709551616 ^ i * cy.toNat = val os + 18446744073709551616 ^ f * val t) ∧ Hd (i ≤ os2.length ∨ cy = 0 ∧ i = os2.length + 1)) (fun v _ => os2.length + 2 - (intOf v).toNat)
       case atStart =>
        refine ⟨_, os3, f + t.length, (f : Int) + t.length, cy, rfl, ⟨by omega⟩, hst3, ⟨by omega⟩, hbel3, ⟨?_⟩, ⟨by omega⟩⟩
        have h8 := hval3.out
        rw [List.take_length] at h8
        exact h8
       case round =>
        clear hst3 hval3 hbel3 hlen3
        obtain ⟨v4, os4, i4, iI, cy4, rfl, hiI, hst4, hlen4, hbel4, hval4, hend4⟩ := hrel
        have hk1 : wr.cell? ⟨w2.heap.size, 0, none⟩ = some (.int .u64 cy4) := by rw [hst4.out.k1.cell 0]; rfl
        have hi4 : iI ≤ 1000000002 := by have := hiI.out; have := hend4.out; omega
        have hi40 : 0 ≤ iI := by have := hiI.out; omega
        by_cases hcy : 0 < cy4
        ·have hcy1 : cy4 ≤ 1 := by have := hst4.out.c01; omega
         obtain ⟨A6, c6, hv6, hc6, hm6, _⟩ := hst4.out.own.reads
         subst hv6
         have hk0b : wr.cell? ⟨w.heap.size, 0, none⟩ = some (.slice A6 os4.length c6) := by rw [hst4.out.k0.cell 0]; rfl
         have hf0b := hst4.out.k0.froz 0
         have HLTM := Hd.mk hcy
         have hlen9 : os4.length ≤ 1000000002 := by have := hend4.out; have := hlen4.out; omega
         by_cases heq : i4 = os4.length
         ·have hb : (iI == (os4.length : Int)) = true := by rw [beq_iff_eq]; have := hiI.out; omega
          have HEQ := Hd.mk heq
          clear heq
          go_wp2_with (at_builtin; refine wpList_append_rd _ rfl _ _ 61 rfl w.heap.size 112 i0 (.int .u64 0) 1 8 Tryz.slU64 hi hz0 hz1 hz2 rfl (by decide) _ _ _ rfl (hst4.out.own.al _) _ _ 1 1 (ints .u64 [0]) rfl (Rd.new_ wr #[.int .u64 0] 112 1 1 rfl) (ints_one _ _) ?d1 ?d2 ?d3 ?_)
          case d1 => unfold maxLen; omega
          case d2 => omega
          case d3 => have := hbel4.out.size; simp; omega
          intro v' w' ho hg2 hob
          have HO : Hd (OwnI w' w.heap.size 112 .u64 v' (os4 ++ [0])) := ⟨by unfold OwnI; rw [ints_app, List.length_append]; exact ho⟩
          have hk3 : Hd (Bk w' w.heap.size 61 #[.slice A6 os4.length c6]) := ⟨(hst4.out.k0.al _).grown hg2 (fun e => own_ne hst4.out.own hst4.out.k0 (by decide) e.symm)⟩
          have hk4 : Hd (Bk w' w2.heap.size 112 #[.int .u64 cy4]) := ⟨(hst4.out.k1.al _).grown hg2 (fun e => hst4.out.ne e.symm)⟩
          have hb3 : Hd (Below w.heap.size w w') := ⟨grown_below (hst4.out.own.al _) hg2 (hbel4.out.alloc hbel4.out.size _) (by have := hbel4.out.size; simp; omega)⟩
          have hc4 : w'.cell? ⟨w.heap.size, 0, none⟩ = some (.slice A6 os4.length c6) := by rw [hk3.out.cell 0]; rfl
          have hf4 := hk3.out.froz 0
          have hne : Hd (v'.ownBlock ≠ some w2.heap.size) := ⟨by
           rcases hob with h | h
           ·rw [h]; exact hst4.out.ne
           ·rw [h]; have := hst4.out.k1.lt; simp; omega⟩
          clear ho hg2 hob
          obtain ⟨A8, c8, hv8, hc8, _, _⟩ := HO.out.reads
          rw [List.length_append, List.length_singleton] at hv8
          subst hv8
          have h01 := Bk.ne_ hk3.out hk4.out (by decide)
          have STA : Hd (SumSt w.heap.size w.heap.size w2.heap.size (.slice A8 (os4.length + 1) c8) (w'.setCell ⟨w.heap.size, 0, none⟩ (.slice A8 (os4.length + 1) c8)) (os4 ++ [0]) cy4) :=
           ⟨⟨hk3.out.set_ 0 _, hk4.out.far (p := ⟨w.heap.size, 0, none⟩) (Ne.symm h01) _, HO.out.far (p := ⟨w.heap.size, 0, none⟩) (own_ne HO.out hk3.out (by decide)) _, hne.out, hst4.out.u.app (U64.nil.cons (by omega) (by omega)), hst4.out.c01⟩⟩
          have BELA : Hd (Below w.heap.size w (w'.setCell ⟨w.heap.size, 0, none⟩ (.slice A8 (os4.length + 1) c8))) := ⟨hb3.out.setCell (Nat.le_refl _) _⟩
          clear hb
          go_wp2_with fail
          with_reducible refine (sum_add w.heap.size w.heap.size w2.heap.size i4 iI hiI.out _ (os4 ++ [0]) 0 cy4 _ STA.out (by have := HEQ.out; simp; omega) (by simp; omega) (by omega) hP2).mono ?_
          rintro e w3 ⟨rfl, s1, c1, q1, q2, q3, q4⟩
          have Q1 := Hd.mk q1
          have Q2 := Hd.mk q2
          have Q3 := Hd.mk q3
          have Q4 := Hd.mk q4
          clear q1 q2 q3 q4
          go_wp2_with fail
          go_roundw
          case measure =>
              have z1 := hiI.out; have z2 := hend4.out; have z3 := HLTM.out
              show os2.length + 2 - (iI + 1).toNat < os2.length + 2 - iI.toNat
              omega
          case rel =>
           refine ⟨_, _, i4 + 1, _, c1, rfl, ⟨by have := hiI.out; omega⟩, Q1, ⟨by rw [List.length_set, List.length_append, List.length_singleton]; have := HEQ.out; have := hlen4.out; omega⟩, ⟨BELA.out.trans (Q2.out)⟩, ⟨?_⟩, ⟨?_⟩⟩
           ·rw [Q3.out]
            rw [val_snoc0]; simpa using hval4.out
           ·by_cases hM : i4 + 1 ≤ os2.length
            ·exact .inl hM
            ·have h1 := hend4.out
             have h2 := hlen4.out
             exact .inr ⟨Q4.out (by have := HEQ.out; simp; omega) (by rw [HEQ.out]; simp) (by first | trivial | rfl), by omega⟩
         ·have hb : (iI == (os4.length : Int)) = false := by rw [beq_eq_false_iff_ne]; have := hiI.out; omega
          go_wp2_with fail
          with_reducible refine (sum_add w.heap.size w.heap.size w2.heap.size i4 iI hiI.out _ os4 0 cy4 _ hst4.out (by have := hend4.out; have := hlen4.out; omega) (by omega) (by omega) hP2).mono ?_
          rintro e w3 ⟨rfl, s1, c1, q1, q2, q3, q4⟩
          have Q1 := Hd.mk q1
          have Q2 := Hd.mk q2
          have Q3 := Hd.mk q3
          have Q4 := Hd.mk q4
          clear q1 q2 q3 q4
          go_wp2_with fail
          go_roundw
          case measure =>
              have z1 := hiI.out; have z2 := hend4.out; have z3 := HLTM.out
              show os2.length + 2 - (iI + 1).toNat < os2.length + 2 - iI.toNat
              omega
          case rel =>
           refine ⟨_, _, i4 + 1, _, c1, rfl, ⟨by have := hiI.out; omega⟩, Q1, ⟨by rw [List.length_set]; have := hend4.out; have := hlen4.out; omega⟩, ⟨hbel4.out.trans (Q2.out)⟩, ⟨?_⟩, ⟨?_⟩⟩
           ·rw [Q3.out]
            simpa using hval4.out
           ·by_cases hM : i4 + 1 ≤ os2.length
            ·exact .inl hM
            ·have h1 := hend4.out
             have h2 := hlen4.out
             exfalso; omega
        ·have hcy0 : cy4 = 0 := by have := hst4.out.c01; omega
         subst hcy0
         go_wp2_with fail
         go_roundw
         case measure => first | (simp [intOf]; done) | (simp [intOf]; omega)
         case rel =>
          have h8 := hval4.out
          have h9 := hst4.out
          refine ⟨v4, os4, f + 1, by go_num, by omega, ⟨h9.k0⟩, ⟨h9.own⟩, ⟨h9.u⟩, ⟨by have := hlen4.out; have := hend4.out; have := hlen2.out; omega⟩, hbel4, ⟨?_⟩⟩
          have h10 : rs.take (f + 1) = rs.take f ++ [r] := by rw [List.take_add_one, hr.out]; rfl
          have h11 := hval.out
          have h12 := htv.out
          rw [h10, rowsVal_snoc, List.length_take, Nat.min_eq_left (by omega), ← h11, ← h12]
          simpa using h8
  ·have hfe : f = rs.length := by omega
   obtain ⟨A5, c5, rfl, hc5, hm5, hr5⟩ := hown.out.reads
   have HRD := Hd.mk hr5
   have hc1 : wo.cell? ⟨w.heap.size, 0, none⟩ = some (.slice A5 os.length c5) := by rw [hk0.out.cell 0]; rfl
   have hl9 := hlen.out
   clear hr5 hm5
   go_wp2_with fail
   refine (limb_trim A5 c5 os wo HRD.out hc5 (by omega)).mono ?_
   rintro e w' ⟨rfl, rfl⟩
   have tl := trimL_len os
   go_wp2_with fail
   refine (clone_u64 A5 c5 (trimL os) wo HRD.out.trim (by omega) (by omega)).mono ?_
   rintro e w' ⟨v, rfl, ho, hb⟩
   have HO := Hd.mk ho
   have HB := Hd.mk hb
   clear ho hb
   go_wp2_with fail
   go_ret
   refine ⟨_, rfl, ?_, hbel.out.trans (HB.out.mono hbel.out.size)⟩
   have h5 := hval.out
   rw [hfe, List.take_length] at h5
   rw [← h5, ← trim_limbs hu.out]
   exact HO.out.low hbel.out.size
end Go.Proofs.YtgjkgkgieeoalaaGreat
