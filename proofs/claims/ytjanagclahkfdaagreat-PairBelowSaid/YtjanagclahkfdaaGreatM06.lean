/- Parts of the proof, joined: what each says stands at its head. -/
import Derived.Test.YtjanagclahkfdaaGreatM05
import Derived.Test.YtjanagclahkfdaaGreatM02
set_option linter.unusedVariables false
set_option linter.unusedSimpArgs false
set_option maxHeartbeats 24000000
set_option maxRecDepth 100000
namespace Go.Proofs.YtjanagclahkfdaaGreat
open Go.RowKit
structure SumSt (base P0 P1 : Nat) (v : Value) (wr : World) (os : List Int) (cy : Int) : Prop where
 k0 : Bk wr P0 48 #[v]
 k1 : Bk wr P1 100 #[.int .u64 cy]
 own : OwnI wr base 100 .u64 v os
 ne : v.ownBlock ≠ some P1
 u : U64 os
 c01 : cy = 0 ∨ cy = 1
theorem carry_step {os : List Int} {i : Nat} {s c' y cy : Int} (hi : i < os.length) (hu : U64 os) (hy : 0 ≤ y) (hc : 0 ≤ cy) (hs : 0 ≤ s) (hc' : 0 ≤ c') (h : s + 18446744073709551616 * c' = os.getD i 0 + y + cy) :
    val (os.set i s) + 18446744073709551616 ^ (i + 1) * c'.toNat = val os + 18446744073709551616 ^ i * (y.toNat + cy.toNat) := by
 have h3 := val_set os i hi s
 have h1 := hu.at_ i
 rw [Nat.pow_succ]
 generalize val (os.set i s) = z at *
 generalize 18446744073709551616 ^ i = p at *
 generalize os.getD i 0 = xi at *
 have e : s.toNat + 18446744073709551616 * c'.toNat = xi.toNat + (y.toNat + cy.toNat) := by omega
 have e2 := congrArg (p * ·) e
 simp only [Nat.mul_add] at e2
 rw [← Nat.mul_assoc] at e2
 rw [Nat.mul_add]
 generalize p * s.toNat = q1 at *
 generalize p * 18446744073709551616 * c'.toNat = q2 at *
 omega
theorem sum_add (base P0 P1 i : Nat) (iI : Int) (hI : iI = i) (v : Value) (os : List Int) (y cy : Int) (w : World) (h : SumSt base P0 P1 v w os cy) (hi : i < os.length) (h9 : os.length ≤ 2000000000) (hy : 0 ≤ y ∧ y < 18446744073709551616) (hb1 : base ≤ P1) :
    Calls Tryz.prog 160 #[.int .i64 iI, .int .u64 y, .pointer (some ⟨P0, 0, none⟩), .pointer (some ⟨P1, 0, none⟩)] w fun e w' => e = .returned (.tuple #[]) ∧
     ∃ s c', SumSt base P0 P1 v w' (os.set i s) c' ∧ Below base w w' ∧ val (os.set i s) + 18446744073709551616 ^ (i + 1) * c'.toNat = val os + 18446744073709551616 ^ i * (y.toNat + cy.toNat) ∧ (i < os.length → os.getD i 0 = 0 → y = 0 → c' = 0) := by
 subst hI
 obtain ⟨g, c, x, rfl, hg1, hg2, hx, hcell, hfro, hset⟩ := h.own.cell hi
 have hx0 := h.u.at_ i
 rw [hx.out] at hx0
 have hcy := h.c01
 have hne : g ≠ P1 := fun e => h.ne (by rw [e]; rfl)
 have hne0 : g ≠ P0 := fun e => own_ne h.own h.k0 (by decide) (by rw [e]; rfl)
 have h01 : P0 ≠ P1 := Bk.ne_ h.k0 h.k1 (by decide)
 refine (sum_1 g P0 P1 i os.length c x y cy w hi h9 (by rw [h.k0.cell 0]; rfl) hcell (by rw [h.k1.cell 0]; rfl) hfro (h.k1.froz 0) hne hx0.1 hy.1 (by omega) (by omega)).mono ?_
 rintro e w' ⟨rfl, rfl⟩
 refine ⟨rfl, (x + y + cy) % 18446744073709551616, (x + y + cy) / 18446744073709551616, ⟨?_, ?_, ?_, h.ne, ?_, ?_⟩, ?_, ?_, ?_⟩
 ·exact ((h.k0.far (p := ⟨g, i, none⟩) (Ne.symm hne0) _).far (p := ⟨P1, 0, none⟩) h01 _).d1
 ·exact ((h.k1.far (p := ⟨g, i, none⟩) (Ne.symm hne) _).set_ 0 _).d1
 ·exact (((hset _).far (p := ⟨P1, 0, none⟩) (by simpa [Value.ownBlock] using hne) _).d1)
 ·exact h.u.set i (by omega) (by omega)
 ·omega
 ·exact (((Below.refl base w).setCell hg1 _).setCell hb1 _).drew
 ·exact carry_step hi h.u hy.1 (by omega) (by omega) (by omega) (by rw [hx.out]; omega)
 ·intro _ h0 hy0
  rw [hx.out] at h0
  subst h0 hy0
  omega
def RdRows (w : World) (A : Option Addr) (rs : List (List Int)) : Prop :=
 ∃ cs, Rd w w.heap.size 1 A rs.length cs ∧ ∀ (j : Nat) (r : List Int), rs[j]? = some r → ∃ a c, cs[j]? = some (.slice a r.length c) ∧ r.length ≤ c ∧ RdI w .u64 a r
theorem RdRows.up {w w' : World} {A : Option Addr} {rs : List (List Int)} (h : RdRows w A rs) (hb : Below w.heap.size w w') : RdRows w' A rs := by
 obtain ⟨cs, h1, h2⟩ := h
 refine ⟨cs, h1.up hb, fun j r hr => ?_⟩
 obtain ⟨a, c, e, hc, hr⟩ := h2 j r hr
 exact ⟨a, c, e, hc, hr.up hb⟩
theorem RdRows.get {w : World} {A : Option Addr} {rs : List (List Int)} (h : RdRows w A rs) {j : Nat} (hj : j < rs.length) :
    ∃ (ad : Addr) (a : Option Addr) (r : List Int) (c : Nat), A = some ad ∧ ad.block < w.heap.size ∧ w.cell? (ad.add j) = some (.slice a r.length c) ∧ Hd (rs[j]? = some r) ∧ r.length ≤ c ∧ Hd (RdI w .u64 a r) := by
 obtain ⟨cs, h1, h2⟩ := h
 obtain ⟨ad, e, hb, hc⟩ := h1.2 (by omega)
 obtain ⟨a, c, e2, hc2, hr⟩ := h2 j rs[j] (List.getElem?_eq_getElem hj)
 exact ⟨ad, a, rs[j], c, e, hb, hc j _ e2, ⟨List.getElem?_eq_getElem hj⟩, hc2, ⟨hr⟩⟩
def rowsVal : List (List Int) → Nat
 | [] => 0
 | r :: rs => val r + 18446744073709551616 * rowsVal rs
theorem rowsVal_snoc (rs : List (List Int)) (r : List Int) : rowsVal (rs ++ [r]) = rowsVal rs + 18446744073709551616 ^ rs.length * val r := by
 induction rs with
 | nil => simp [rowsVal]
 | cons x rs ih =>
   simp only [List.cons_append, rowsVal, ih, List.length_cons, Nat.pow_succ, Nat.mul_add]
   rw [show 18446744073709551616 ^ rs.length * 18446744073709551616 * val r = 18446744073709551616 * (18446744073709551616 ^ rs.length * val r) by rw [Nat.mul_comm (18446744073709551616 ^ rs.length), Nat.mul_assoc]]
   omega
theorem limb_sum (A : Option Addr) (c : Nat) (rs : List (List Int)) (w : World) (h : RdRows w A rs) (hn : rs.length ≤ c) (h6 : rs.length ≤ 100000000) (hr6 : ∀ r ∈ rs, r.length ≤ 100000000 ∧ U64 r) :
    Calls Tryz.prog 132 #[.slice A rs.length c] w fun e w' => ∃ v, e = .returned v ∧ OwnI w' w.heap.size 100 .u64 v (limbs (rowsVal rs)) ∧ Below w.heap.size w w' := by
 obtain ⟨i0, hi, hz0, hz1, hz2⟩ := info_split Tryz.infU64
 have H := Hd.mk h
 have HR6 := Hd.mk hr6
 clear h hr6
 go_enter Tryz.func132, Tryz.ntmps132
 go_wp2_with fail
 go_loopw [13] (fun v13 wr => ∃ (v : Value) (os : List Int) (f : Nat), v13 = .int .i64 f ∧ f ≤ rs.length ∧ Hd (Bk wr w.heap.size 48 #[v]) ∧ Hd (OwnI wr w.heap.size 100 .u64 v os) ∧ Hd (U64 os) ∧
     Hd (os.length ≤ 100000000 + f) ∧ Hd (Below w.heap.size w wr) ∧ Hd (val os = rowsVal (rs.take f))) (fun v _ => rs.length - (intOf v).toNat)
 case atStart => exact ⟨_, [], 0, rfl, by omega, ⟨Bk.new_ _ _ _⟩, ⟨OwnI.nil _ _ _ _⟩, ⟨.nil⟩, ⟨by simp⟩, ⟨(Below.refl _ _).alloc (Nat.le_refl _) _⟩, ⟨by simp [val, rowsVal]⟩⟩
 case round =>
  obtain ⟨v, os, f, rfl, hf, hk0, hown, hu, hlen, hbel, hval⟩ := hrel
  obtain ⟨wo, rfl⟩ : ∃ wo : World, wo = wr := ⟨_, rfl⟩
  by_cases hlt : f < rs.length
  ·obtain ⟨ad, a, r, cr, rfl, hadb, hcellw, hr, hcr, hrd⟩ := H.out.get hlt
   have hcell := (hbel.out.cell (p := ad.add f) (by rw [add_block]; exact hadb)).trans hcellw
   clear hcellw hadb
   have hrdo := Hd.mk (hrd.out.up hbel.out)
   have hr7 := HR6.out r (List.mem_of_getElem? hr.out)
   have hr8 := hr7.1
   have hru := Hd.mk hr7.2
   clear hr7
   go_wp2_with fail
   refine (limb_trim a cr r wo hrdo.out hcr (by omega)).mono ?_
   rintro e w' ⟨rfl, rfl⟩
   obtain ⟨t, ht⟩ : ∃ t, t = trimL r := ⟨_, rfl⟩
   have HT := Hd.mk ht
   rw [← ht]
   have htl := trimL_len r
   rw [← ht] at htl
   have hrt := Hd.mk hrd.out.trim
   rw [← ht] at hrt
   have htu : Hd (U64 t) := ⟨by rw [ht, trimL_take]; exact hru.out.take _⟩
   have htv : Hd (val t = val r) := ⟨by rw [ht, val_trim]⟩
   clear ht hcell
   go_wp2_with fail
   have hwo := Hd.mk hbel.out.size
   go_loopg [29] (f + t.length - os.length) (fun g _ wr => ∃ (v2 : Value) (os2 : List Int), Hd (Bk wr w.heap.size 48 #[v2]) ∧ Hd (OwnI wr w.heap.size 100 .u64 v2 os2) ∧ Hd (U64 os2) ∧
    Hd (os2.length ≤ 100000000 + f) ∧ Hd (Below w.heap.size w wr) ∧ Hd (val os2 = val os) ∧ Hd (g = f + t.length - os2.length))
   case atStart => exact ⟨v, os, hk0, hown, hu, hlen, hbel, ⟨rfl⟩, ⟨rfl⟩⟩
   case round =>
    obtain ⟨v2, os2, hk2, hown2, hu2, hlen2, hbel2, hval2, hg⟩ := hrel
    obtain ⟨A5, c5, rfl, hc5, hm5, hr5⟩ := hown2.out.reads
    clear hr5
    have hc1 : wr.cell? ⟨w.heap.size, 0, none⟩ = some (.slice A5 os2.length c5) := by rw [hk2.out.cell 0]; rfl
    have hf1 := hk2.out.froz 0
    have hl9 := hlen2.out
    by_cases hlt2 : os2.length < f + t.length
    ·have hlt3 : (os2.length : Int) < f + t.length := by omega
     go_wp2_with (at_builtin; refine wpList_append_rd _ rfl _ _ 48 rfl w.heap.size 100 i0 (.int .u64 0) 1 8 Tryz.slU64 hi hz0 hz1 hz2 rfl (by decide) _ _ _ rfl (hown2.out.al _) _ _ 1 1 (ints .u64 [0]) rfl (Rd.new_ wr #[.int .u64 0] 100 1 1 rfl) (ints_one _ _) ?c1 ?c2 ?c3 ?_)
     case c1 => unfold maxLen; omega
     case c2 => omega
     case c3 => have := hbel2.out.size; simp; omega
     intro v' w' ho hg2 _
     have HO : Hd (OwnI w' w.heap.size 100 .u64 v' (os2 ++ [0])) := ⟨by unfold OwnI; rw [ints_app, List.length_append]; exact ho⟩
     have hk3 : Hd (Bk w' w.heap.size 48 #[.slice A5 os2.length c5]) := ⟨(hk2.out.al _).grown hg2 (fun e => own_ne hown2.out hk2.out (by decide) e.symm)⟩
     have hb3 : Hd (Below w.heap.size w w') := ⟨grown_below (hown2.out.al _) hg2 (hbel2.out.alloc hbel2.out.size _) (by have := hbel2.out.size; simp; omega)⟩
     have hc4 : w'.cell? ⟨w.heap.size, 0, none⟩ = some (.slice A5 os2.length c5) := by rw [hk3.out.cell 0]; rfl
     have hf4 := hk3.out.froz 0
     clear ho hg2
     obtain ⟨A8, c8, hv8, hc8, _, _⟩ := HO.out.reads
     rw [List.length_append, List.length_singleton] at hv8
     subst hv8
     go_wp2_with fail
     go_roundg (f + t.length - (os2.length + 1))
     case measure => have := hg.out; omega
     case rel =>
      exact ⟨_, os2 ++ [0], ⟨hk3.out.set_ 0 _⟩, ⟨HO.out.far (p := ⟨w.heap.size, 0, none⟩) (own_ne HO.out hk3.out (by decide)) _⟩, ⟨hu2.out.app (U64.nil.cons (by omega) (by omega))⟩, ⟨by simp; omega⟩, ⟨hb3.out.setCell (Nat.le_refl _) _⟩, ⟨by rw [val_snoc0]; exact hval2.out⟩, ⟨by simp⟩⟩
    ·have hlt3 : ¬ (os2.length : Int) < f + t.length := by omega
     go_wp2_with fail
     have hB2 := hbel2.out.size
     have hP1 := Hd.mk (Bk.new_ wr 100 #[.int .u64 0])
     have hne5 : (Value.slice A5 os2.length c5).ownBlock ≠ some wr.heap.size := by
      intro e
      have := (World.ownsRow.lt hown2.out _ e).2
      omega
     have hst : Hd (SumSt w.heap.size w.heap.size wr.heap.size (.slice A5 os2.length c5) (wr.alloc (.cells #[.int .u64 0] 100)) os2 0) :=
      ⟨⟨hk2.out.al _, hP1.out, hown2.out.al _, hne5, hu2.out, .inl rfl⟩⟩
     have hb4 : Hd (Below w.heap.size w (wr.alloc (.cells #[.int .u64 0] 100))) := ⟨hbel2.out.alloc hB2 _⟩
     obtain ⟨w2, rfl⟩ : ∃ w2 : World, w2 = wr := ⟨_, rfl⟩
     clear hP1 hne5 hc1 hf1 hm5 hc5
     go_loopw [33] (fun v33 wx => ∃ (os3 : List Int) (i : Nat) (cy : Int), v33 = .int .i64 i ∧ i ≤ t.length ∧ Hd (SumSt w.heap.size w.heap.size w2.heap.size (.slice A5 os2.length c5) wx os3 cy) ∧ Hd (os3.length = os2.length) ∧ Hd (Below w.heap.size w wx) ∧
      Hd (val os3 + 18446744073709551616 ^ (f + i) * cy.toNat = val os + 18446744073709551616 ^ f * val (t.take i))) (fun v _ => t.length - (intOf v).toNat)
     case atStart => exact ⟨os2, 0, 0, rfl, by omega, hst, ⟨rfl⟩, hb4, ⟨by rw [hval2.out]; simp [val]⟩⟩
     case round =>
      obtain ⟨os3, i, cy, rfl, hi3, hst3, hlen3, hbel3, hval3⟩ := hrel
      have hl3 := hlen3.out
      by_cases hlt4 : i < t.length
      ·have HT3 := Hd.mk (hrt.out.up hbel3.out)
       obtain ⟨bd, y, rfl, _, hy, hcy⟩ := HT3.out.get hlt4
       have hyu := htu.out.at_ i
       rw [hy.out] at hyu
       have hfi : f + i < os3.length := by omega
       have hP2 : w.heap.size ≤ w2.heap.size := hB2
       have CC := Hd.mk (sum_add w.heap.size w.heap.size w2.heap.size (f + i) ((f : Int) + i) (by omega) (.slice A5 os2.length c5) os3 y cy wr hst3.out hfi (by have := hlen2.out; omega) hyu hP2)
       go_wp2_with fail
       with_reducible refine (CC.out).mono ?_
       rintro e w3 ⟨rfl, s1, c1, q1, q2, q3, q4⟩
       have Q1 := Hd.mk q1
       have Q2 := Hd.mk q2
       have Q3 := Hd.mk q3
       clear q1 q2 q3 q4
       go_wp2_with fail
       go_roundw
       case measure => first | (simp [intOf]; done) | (simp [intOf]; omega)
       case rel =>
        refine ⟨_, i + 1, c1, by go_num, by omega, Q1, ⟨by rw [List.length_set]; exact hlen3.out⟩, ⟨hbel3.out.trans Q2.out⟩, ⟨?_⟩⟩
        rw [← Nat.add_assoc, Q3.out, val_take_succ, hy.out, Nat.mul_add, Nat.mul_add]
        have h8 := hval3.out
        rw [show 18446744073709551616 ^ f * (18446744073709551616 ^ i * y.toNat) = 18446744073709551616 ^ (f + i) * y.toNat by rw [Nat.pow_add, Nat.mul_assoc]]
        omega
      ·have hie : i = t.length := by omega
       subst hie
       go_wp2_with fail
       have hl2 := hlen2.out
       have hge2 : f + t.length ≤ os2.length := by omega
       have hP2 : w.heap.size ≤ w2.heap.size := hB2
       go_loopw [10] (fun v10 wx => ∃ (v4 : Value) (os4 : List Int) (i : Nat) (iI cy : Int), v10 = .int .i64 iI ∧ Hd (iI = i) ∧ Hd (SumSt w.heap.size w.heap.size w2.heap.size v4 wx os4 cy) ∧ Hd (os4.length = max os2.length i) ∧
        Hd (Below w.heap.size w wx) ∧ Hd (val os4 + 18446744073709551616 ^ i * cy.toNat = val os + 18446744073709551616 ^ f * val t) ∧ Hd (i ≤ os2.length ∨ cy = 0 ∧ i = os2.length + 1)) (fun v _ => os2.length + 2 - (intOf v).toNat)
       case atStart =>
        refine ⟨_, os3, f + t.length, (f : Int) + t.length, cy, rfl, ⟨by omega⟩, hst3, ⟨by omega⟩, hbel3, ⟨?_⟩, ⟨by omega⟩⟩
        have h8 := hval3.out
        rw [List.take_length] at h8
        exact h8
       case round =>
        clear hst3 hval3 hbel3 hlen3
        obtain ⟨v4, os4, i4, iI, cy4, rfl, hiI, hst4, hlen4, hbel4, hval4, hend4⟩ := hrel
        have hk1 : wr.cell? ⟨w2.heap.size, 0, none⟩ = some (.int .u64 cy4) := by rw [hst4.out.k1.cell 0]; rfl
        have hi4 : iI ≤ 1000000002 := by have := hiI.out; have := hend4.out; omega
        have hi40 : 0 ≤ iI := by have := hiI.out; omega
        by_cases hcy : 0 < cy4
        ·have hcy1 : cy4 ≤ 1 := by have := hst4.out.c01; omega
         obtain ⟨A6, c6, hv6, hc6, hm6, _⟩ := hst4.out.own.reads
         subst hv6
         have hk0b : wr.cell? ⟨w.heap.size, 0, none⟩ = some (.slice A6 os4.length c6) := by rw [hst4.out.k0.cell 0]; rfl
         have hf0b := hst4.out.k0.froz 0
         have HLTM := Hd.mk hcy
         have hlen9 : os4.length ≤ 1000000002 := by have := hend4.out; have := hlen4.out; omega
         by_cases heq : i4 = os4.length
         ·have hb : (iI == (os4.length : Int)) = true := by rw [beq_iff_eq]; have := hiI.out; omega
          have HEQ := Hd.mk heq
          clear heq
          go_wp2_with (at_builtin; refine wpList_append_rd _ rfl _ _ 48 rfl w.heap.size 100 i0 (.int .u64 0) 1 8 Tryz.slU64 hi hz0 hz1 hz2 rfl (by decide) _ _ _ rfl (hst4.out.own.al _) _ _ 1 1 (ints .u64 [0]) rfl (Rd.new_ wr #[.int .u64 0] 100 1 1 rfl) (ints_one _ _) ?d1 ?d2 ?d3 ?_)
          case d1 => unfold maxLen; omega
          case d2 => omega
          case d3 => have := hbel4.out.size; simp; omega
          intro v' w' ho hg2 hob
          have HO : Hd (OwnI w' w.heap.size 100 .u64 v' (os4 ++ [0])) := ⟨by unfold OwnI; rw [ints_app, List.length_append]; exact ho⟩
          have hk3 : Hd (Bk w' w.heap.size 48 #[.slice A6 os4.length c6]) := ⟨(hst4.out.k0.al _).grown hg2 (fun e => own_ne hst4.out.own hst4.out.k0 (by decide) e.symm)⟩
          have hk4 : Hd (Bk w' w2.heap.size 100 #[.int .u64 cy4]) := ⟨(hst4.out.k1.al _).grown hg2 (fun e => hst4.out.ne e.symm)⟩
          have hb3 : Hd (Below w.heap.size w w') := ⟨grown_below (hst4.out.own.al _) hg2 (hbel4.out.alloc hbel4.out.size _) (by have := hbel4.out.size; simp; omega)⟩
          have hc4 : w'.cell? ⟨w.heap.size, 0, none⟩ = some (.slice A6 os4.length c6) := by rw [hk3.out.cell 0]; rfl
          have hf4 := hk3.out.froz 0
          have hne : Hd (v'.ownBlock ≠ some w2.heap.size) := ⟨by
           rcases hob with h | h
           ·rw [h]; exact hst4.out.ne
           ·rw [h]; have := hst4.out.k1.lt; simp; omega⟩
          clear ho hg2 hob
          obtain ⟨A8, c8, hv8, hc8, _, _⟩ := HO.out.reads
          rw [List.length_append, List.length_singleton] at hv8
          subst hv8
          have h01 := Bk.ne_ hk3.out hk4.out (by decide)
          have STA : Hd (SumSt w.heap.size w.heap.size w2.heap.size (.slice A8 (os4.length + 1) c8) (w'.setCell ⟨w.heap.size, 0, none⟩ (.slice A8 (os4.length + 1) c8)) (os4 ++ [0]) cy4) :=
           ⟨⟨hk3.out.set_ 0 _, hk4.out.far (p := ⟨w.heap.size, 0, none⟩) (Ne.symm h01) _, HO.out.far (p := ⟨w.heap.size, 0, none⟩) (own_ne HO.out hk3.out (by decide)) _, hne.out, hst4.out.u.app (U64.nil.cons (by omega) (by omega)), hst4.out.c01⟩⟩
          have BELA : Hd (Below w.heap.size w (w'.setCell ⟨w.heap.size, 0, none⟩ (.slice A8 (os4.length + 1) c8))) := ⟨hb3.out.setCell (Nat.le_refl _) _⟩
          clear hb
          go_wp2_with fail
          with_reducible refine (sum_add w.heap.size w.heap.size w2.heap.size i4 iI hiI.out _ (os4 ++ [0]) 0 cy4 _ STA.out (by have := HEQ.out; simp; omega) (by simp; omega) (by omega) hP2).mono ?_
          rintro e w3 ⟨rfl, s1, c1, q1, q2, q3, q4⟩
          have Q1 := Hd.mk q1
          have Q2 := Hd.mk q2
          have Q3 := Hd.mk q3
          have Q4 := Hd.mk q4
          clear q1 q2 q3 q4
          go_wp2_with fail
          go_roundw
          case measure =>
              have z1 := hiI.out; have z2 := hend4.out; have z3 := HLTM.out
              show os2.length + 2 - (iI + 1).toNat < os2.length + 2 - iI.toNat
              omega
          case rel =>
           refine ⟨_, _, i4 + 1, _, c1, rfl, ⟨by have := hiI.out; omega⟩, Q1, ⟨by rw [List.length_set, List.length_append, List.length_singleton]; have := HEQ.out; have := hlen4.out; omega⟩, ⟨BELA.out.trans (Q2.out)⟩, ⟨?_⟩, ⟨?_⟩⟩
           ·rw [Q3.out]
            rw [val_snoc0]; simpa using hval4.out
           ·by_cases hM : i4 + 1 ≤ os2.length
            ·exact .inl hM
            ·have h1 := hend4.out
             have h2 := hlen4.out
             exact .inr ⟨Q4.out (by have := HEQ.out; simp; omega) (by rw [HEQ.out]; simp) (by first | trivial | rfl), by omega⟩
         ·have hb : (iI == (os4.length : Int)) = false := by rw [beq_eq_false_iff_ne]; have := hiI.out; omega
          go_wp2_with fail
          with_reducible refine (sum_add w.heap.size w.heap.size w2.heap.size i4 iI hiI.out _ os4 0 cy4 _ hst4.out (by have := hend4.out; have := hlen4.out; omega) (by omega) (by omega) hP2).mono ?_
          rintro e w3 ⟨rfl, s1, c1, q1, q2, q3, q4⟩
          have Q1 := Hd.mk q1
          have Q2 := Hd.mk q2
          have Q3 := Hd.mk q3
          have Q4 := Hd.mk q4
          clear q1 q2 q3 q4
          go_wp2_with fail
          go_roundw
          case measure =>
              have z1 := hiI.out; have z2 := hend4.out; have z3 := HLTM.out
              show os2.length + 2 - (iI + 1).toNat < os2.length + 2 - iI.toNat
              omega
          case rel =>
           refine ⟨_, _, i4 + 1, _, c1, rfl, ⟨by have := hiI.out; omega⟩, Q1, ⟨by rw [List.length_set]; have := hend4.out; have := hlen4.out; omega⟩, ⟨hbel4.out.trans (Q2.out)⟩, ⟨?_⟩, ⟨?_⟩⟩
           ·rw [Q3.out]
            simpa using hval4.out
           ·by_cases hM : i4 + 1 ≤ os2.length
            ·exact .inl hM
            ·have h1 := hend4.out
             have h2 := hlen4.out
             exfalso; omega
        ·have hcy0 : cy4 = 0 := by have := hst4.out.c01; omega
         subst hcy0
         go_wp2_with fail
         go_roundw
         case measure => first | (simp [intOf]; done) | (simp [intOf]; omega)
         case rel =>
          have h8 := hval4.out
          have h9 := hst4.out
          refine ⟨v4, os4, f + 1, by go_num, by omega, ⟨h9.k0⟩, ⟨h9.own⟩, ⟨h9.u⟩, ⟨by have := hlen4.out; have := hend4.out; have := hlen2.out; omega⟩, hbel4, ⟨?_⟩⟩
          have h10 : rs.take (f + 1) = rs.take f ++ [r] := by rw [List.take_add_one, hr.out]; rfl
          have h11 := hval.out
          have h12 := htv.out
          rw [h10, rowsVal_snoc, List.length_take, Nat.min_eq_left (by omega), ← h11, ← h12]
          simpa using h8
  ·have hfe : f = rs.length := by omega
   obtain ⟨A5, c5, rfl, hc5, hm5, hr5⟩ := hown.out.reads
   have HRD := Hd.mk hr5
   have hc1 : wo.cell? ⟨w.heap.size, 0, none⟩ = some (.slice A5 os.length c5) := by rw [hk0.out.cell 0]; rfl
   have hl9 := hlen.out
   clear hr5 hm5
   go_wp2_with fail
   refine (limb_trim A5 c5 os wo HRD.out hc5 (by omega)).mono ?_
   rintro e w' ⟨rfl, rfl⟩
   have tl := trimL_len os
   go_wp2_with fail
   refine (clone_u64 A5 c5 (trimL os) wo HRD.out.trim (by omega) (by omega)).mono ?_
   rintro e w' ⟨v, rfl, ho, hb⟩
   have HO := Hd.mk ho
   have HB := Hd.mk hb
   clear ho hb
   go_wp2_with fail
   go_ret
   refine ⟨_, rfl, ?_, hbel.out.trans (HB.out.mono hbel.out.size)⟩
   have h5 := hval.out
   rw [hfe, List.take_length] at h5
   rw [← h5, ← trim_limbs hu.out]
   exact HO.out.low hbel.out.size
def zer (n : Nat) : Array Value := (ints .u64 (List.replicate n 0)).toArray
theorem zer_size (n : Nat) : (zer n).size = n := by simp [zer, ints]
theorem mkU64 (n : Nat) (N : Int) (hN : N = n) (h9 : n ≤ 2000000000) (w : World) :
    (Instr.makeSlice 48 (.int .i64 N) (.int .i64 N)).run Tryz.prog w = .ok (.slice (some ⟨w.heap.size, 0, none⟩) n n) (w.alloc (.cells (zer n) 100)) := by
 subst hN
 obtain ⟨i0, hi, hz0, hz1, hz2⟩ := info_split Tryz.infU64
 have hr := run_make (P := Tryz.prog) w 48 100 i0 (.int .u64 0) Tryz.slU64 hi hz0 .i64 .i64 n n (by omega) (Int.le_refl _) (by rw [hz2]; omega) (by omega)
 simp only [Int.toNat_natCast, hz1, Nat.mul_one] at hr
 have e : madeCells (Value.int .u64 0).cells n = zer n := by
  apply Array.ext'
  show (madeCells #[Value.int .u64 0] n).toList = _
  rw [toList_madeCells_one]
  simp [zer, ints]
 rw [hr, e]
theorem mkU64_own (n : Nat) (h9 : n ≤ 2000000000) (w : World) (base : Nat) (hb : base ≤ w.heap.size) : OwnI (w.alloc (.cells (zer n) 100)) base 100 .u64 (.slice (some ⟨w.heap.size, 0, none⟩) n n) (List.replicate n 0) := by
 have := World.ownsRow_lit (e := 100) (size := 1) w (zer n) n hb (by unfold maxLen; omega) (by rw [zer_size]; omega)
 unfold OwnI
 rw [List.length_replicate]
 simpa [zer] using this
theorem zeros_u64 (n : Nat) : U64 (List.replicate n 0) := fun x hx => by rw [List.eq_of_mem_replicate hx]; omega
theorem zeros_val (n : Nat) : val (List.replicate n 0) = 0 := by
 induction n with
 | zero => rfl
 | succ n ih => rw [List.replicate_succ, val, ih]; rfl
theorem own_below {w w' : World} {base : Nat} {e : TypeId} {sz n : Nat} {v : Value} {xs : List Value} (h : w.ownsRow base e sz v n xs) (hb : Below w.heap.size w w') : w'.ownsRow base e sz v n xs := by
 refine ⟨h.1, ?_⟩
 rcases h.2 with h1 | ⟨g, cap, cur, e1, h2, h3, r⟩
 ·exact .inl h1
 ·refine .inr ⟨g, cap, cur, e1, h2, ?_, r⟩
  rcases Nat.lt_or_ge g w.heap.size with hg | hg
  ·exact (hb.block g hg).trans h3
  ·rw [Array.getElem?_eq_none hg] at h3; cases h3
theorem OwnI.grown {w w' : World} {base : Nat} {e : TypeId} {k : IntKind} {v : Value} {l : List Int} (h : OwnI w base e k v l) {row : Option Nat} (hg : w.grownBy w' row) (hne : v.ownBlock = none ∨ v.ownBlock ≠ row) : OwnI w' base e k v l := World.ownsRow.kept h hg hne
def RowsOwn (w : World) (base : Nat) (v : Value) (rs : List (List Int)) : Prop :=
 ∃ cs, w.ownsRow base 48 1 v rs.length cs ∧ ∀ (j : Nat) (r : List Int), rs[j]? = some r → ∃ u, cs[j]? = some u ∧ OwnI w base 100 .u64 u r
theorem RowsOwn.nil (w : World) (base : Nat) : RowsOwn w base (.slice none 0 0) [] := ⟨[], World.ownsRow_nil w base _ 1, fun j r h => by simp at h⟩
theorem RowsOwn.below {w w' : World} {base : Nat} {v : Value} {rs : List (List Int)} (h : RowsOwn w base v rs) (hb : Below w.heap.size w w') : RowsOwn w' base v rs := by
 obtain ⟨cs, h1, h2⟩ := h
 exact ⟨cs, own_below h1 hb, fun j r hr => let ⟨u, e, ho⟩ := h2 j r hr; ⟨u, e, ho.below hb⟩⟩
theorem RowsOwn.reads {w : World} {base : Nat} {v : Value} {rs : List (List Int)} (h : RowsOwn w base v rs) : ∃ A c, v = .slice A rs.length c ∧ rs.length ≤ c ∧ RdRows w A rs := by
 obtain ⟨cs, h1, h2⟩ := h
 obtain ⟨A, c, hv, hl⟩ : ∃ A c, v = .slice A rs.length c ∧ rs.length ≤ c := by
  rcases h1.2 with ⟨e1, h0⟩ | ⟨g, cap, cur, e1, _, _, h4, h5, _⟩
  ·exact ⟨_, _, by rw [h0]; exact e1, by omega⟩
  ·exact ⟨_, _, e1, h4⟩
 subst hv
 refine ⟨A, c, rfl, hl, cs, Rd.of_own h1, fun j r hr => ?_⟩
 obtain ⟨u, e, ho⟩ := h2 j r hr
 obtain ⟨a, c, rfl, hc, _, hrd⟩ := ho.reads
 exact ⟨a, c, e, hc, hrd⟩
theorem RowsOwn.push {w w' : World} {base : Nat} {v v' u : Value} {rs : List (List Int)} {r : List Int} {cs : List Value} (h1 : w.ownsRow base 48 1 v rs.length cs) (h2 : ∀ (j : Nat) (r : List Int), rs[j]? = some r → ∃ u, cs[j]? = some u ∧ OwnI w base 100 .u64 u r)
    (hu : OwnI w base 100 .u64 u r) (ho : w'.ownsRow base 48 1 v' (rs.length + 1) (cs ++ [u])) (hg : w.grownBy w' v.ownBlock) : RowsOwn w' base v' (rs ++ [r]) := by
 have hne : ∀ u r, OwnI w base 100 .u64 u r → OwnI w' base 100 .u64 u r := fun u r hu => by
  refine hu.grown hg ?_
  rcases h1.2 with ⟨rfl, _⟩ | ⟨g, cap, cur, rfl, hb, hk, _⟩
  ·rcases hu.2 with ⟨rfl, _⟩ | ⟨g, cap, cur, rfl, _⟩
   ·exact .inl rfl
   ·exact .inr (by simp [Value.ownBlock])
  ·exact .inr (own_ne hu (show Bk w g _ cur from hk) (by decide))
 have hcl := h1.1
 refine ⟨cs ++ [u], by rw [List.length_append]; exact ho, fun j r' hr => ?_⟩
 rcases Nat.lt_trichotomy j rs.length with hj | hj | hj
 ·rw [List.getElem?_append_left hj] at hr
  obtain ⟨u', e, ho'⟩ := h2 j r' hr
  exact ⟨u', by rw [List.getElem?_append_left (by omega)]; exact e, hne _ _ ho'⟩
 ·subst hj
  simp at hr
  subst hr
  exact ⟨u, by rw [List.getElem?_append_right (by omega), hcl]; simp, hne _ _ hu⟩
 ·rw [List.getElem?_eq_none (by simp; omega)] at hr; cases hr
theorem mul64 (x y : Int) (w : World) (hx : 0 ≤ x ∧ x < 18446744073709551616) (hy : 0 ≤ y ∧ y < 18446744073709551616) :
    Calls Tryz.prog 130 #[.int .u64 x, .int .u64 y] w fun e w' => e = .returned (.tuple #[.int .u64 (x * y / 18446744073709551616), .int .u64 (x * y % 18446744073709551616)]) ∧ w = w' := by
 obtain ⟨X, rfl⟩ := Int.eq_ofNat_of_zero_le hx.1
 obtain ⟨Y, rfl⟩ := Int.eq_ofNat_of_zero_le hy.1
 refine (Tryz.bits_Mul64 X Y (by omega) (by omega) w).mono ?_
 rintro e w' ⟨rfl, rfl⟩
 refine ⟨?_, rfl⟩
 simp [Int.natCast_ediv, Int.natCast_emod]
theorem mul_step (x y c : Int) (hx : 0 ≤ x ∧ x < 18446744073709551616) (hy : 0 ≤ y ∧ y < 18446744073709551616) (hc : 0 ≤ c ∧ c < 18446744073709551616) :
    0 ≤ x * y ∧ x * y / 18446744073709551616 + (x * y % 18446744073709551616 + c) / 18446744073709551616 < 18446744073709551616 ∧
    (x * y + c) % 18446744073709551616 + 18446744073709551616 * (x * y / 18446744073709551616 + (x * y % 18446744073709551616 + c) / 18446744073709551616) = x * y + c := by
 have h1 : 0 ≤ x * y := Int.mul_nonneg hx.1 hy.1
 have h2 : x * y ≤ 18446744073709551615 * 18446744073709551615 := by
  have := Int.mul_le_mul (show x ≤ 18446744073709551615 by omega) (show y ≤ 18446744073709551615 by omega) hy.1 (by omega)
  exact this
 generalize x * y = z at *
 omega
theorem rowsVal_mul (xs : List Int) (f : List (List Int)) (v : Nat) (hl : f.length = xs.length) (h : ∀ j r, f[j]? = some r → val r = (xs.getD j 0).toNat * v) : rowsVal f = val xs * v := by
 induction xs generalizing f with
 | nil =>
   cases f with
   | nil => simp [rowsVal, val]
   | cons r f => simp at hl
 | cons x xs ih =>
   cases f with
   | nil => simp at hl
   | cons r f =>
     have h0 := h 0 r rfl
     have h1 := ih f (by simpa using hl) (fun j r hr => by have := h (j + 1) r (by simpa using hr); simpa using this)
     simp at h0
     rw [rowsVal, val, h0, h1, Nat.add_mul, Nat.mul_assoc]
theorem limb_Mul (A B : Option Addr) (c d : Nat) (l m : List Int) (w : World) (h : RdI w .u64 A l) (hn : l.length ≤ c) (hb9 : l.length ≤ 90000000)
    (h' : RdI w .u64 B m) (hn' : m.length ≤ d) (hb9' : m.length ≤ 90000000) (hu : U64 l) (hu' : U64 m) :
    Calls Tryz.prog 98 #[.slice A l.length c, .slice B m.length d] w fun e w' => ∃ v, e = .returned v ∧ OwnI w' w.heap.size 100 .u64 v (limbs (val l * val m)) ∧ Below w.heap.size w w' := by
 obtain ⟨i0, hi, hz0, hz1, hz2⟩ := info_split Tryz.infSl
 have hm1 := trimL_len m
 have hl1 := trimL_len l
 have C1 := Hd.mk (limb_trim B d m w h' hn' (by omega))
 have C2 := Hd.mk (limb_trim A c l w h hn (by omega))
 have R1 := Hd.mk h.trim
 have R2 := Hd.mk h'.trim
 have u1 : Hd (U64 (trimL l)) := ⟨by rw [trimL_take]; exact hu.take _⟩
 have u2 : Hd (U64 (trimL m)) := ⟨by rw [trimL_take]; exact hu'.take _⟩
 have v1 := Hd.mk (val_trim l)
 have v2 := Hd.mk (val_trim m)
 rw [← v1.out, ← v2.out]
 clear v1 v2 h h' hu hu'
 generalize trimL l = x at *
 generalize trimL m = y at *
 go_enter Tryz.func98, Tryz.ntmps98
 go_wp2_with fail
 refine C1.out.mono ?_
 rintro e w' ⟨rfl, rfl⟩
 go_wp2_with fail
 refine C2.out.mono ?_
 rintro e w' ⟨rfl, rfl⟩
 clear C1 C2
 go_wp2_with fail
 go_loopw [5, 21] (fun v5 v21 wr => ∃ (rs : List (List Int)) (k : Nat), v21 = .int .i64 k ∧ k ≤ x.length ∧ Hd (rs.length = k) ∧ Hd (RowsOwn wr w.heap.size v5 rs) ∧ Hd (Below w.heap.size w wr) ∧
  Hd (∀ j r, rs[j]? = some r → r.length ≤ 100000000 ∧ U64 r ∧ val r = (x.getD j 0).toNat * val y)) (fun _ v _ => x.length - (intOf v).toNat)
 case atStart => exact ⟨[], 0, rfl, by omega, ⟨rfl⟩, ⟨RowsOwn.nil _ _⟩, ⟨.refl _ _⟩, ⟨fun j r h => by simp at h⟩⟩
 case round =>
  obtain ⟨rs, k, rfl, hk, hrl, hro, hbel, hrv⟩ := hrel
  obtain ⟨ws, rfl⟩ : ∃ ws : World, ws = wr := ⟨_, rfl⟩
  obtain ⟨cs, hc1, hc2⟩ := hro.out
  have HC1 := Hd.mk hc1
  have HC2 := Hd.mk hc2
  obtain ⟨A5, c5, hv5, hl5, hrr⟩ := hro.out.reads
  subst hv5
  have HRR := Hd.mk hrr
  clear hc1 hc2 hrr
  by_cases hlt : k < x.length
  ·have RX := Hd.mk (R1.out.up hbel.out)
   obtain ⟨ad, xk, rfl, _, hxk, hcell⟩ := RX.out.get hlt
   have hx0 := u1.out.at_ k
   rw [hxk.out] at hx0
   have hmk := fun W => mkU64 (y.length + 1) ((y.length : Int) + 1) (by omega) (by omega) W
   have HB := Hd.mk hbel.out.size
   have hown0 := Hd.mk (mkU64_own (y.length + 1) (by omega) ws w.heap.size HB.out)
   go_wp2_with fail
   clear hmk
   go_loopw [9, 31] (fun v9 v31 wr => ∃ (r : List Int) (i : Nat) (cy : Int), v9 = .int .u64 cy ∧ v31 = .int .i64 i ∧ i ≤ y.length ∧ Hd (r.length = y.length + 1) ∧ Hd (U64 r) ∧ Hd (0 ≤ cy ∧ cy < 18446744073709551616) ∧
    Hd (OwnI wr w.heap.size 100 .u64 (.slice (some ⟨ws.heap.size, 0, none⟩) (y.length + 1) (y.length + 1)) r) ∧ Hd (Below ws.heap.size ws wr) ∧ Hd (r.drop i = List.replicate (y.length + 1 - i) 0) ∧ Hd (val r + 18446744073709551616 ^ i * cy.toNat = xk.toNat * val (y.take i))) (fun _ v _ => y.length - (intOf v).toNat)
   case atStart => exact ⟨List.replicate (y.length + 1) 0, 0, 0, rfl, rfl, by omega, ⟨by simp⟩, ⟨zeros_u64 _⟩, ⟨by omega⟩, hown0, ⟨(Below.refl _ _).alloc (Nat.le_refl _) _⟩, ⟨by simp⟩, ⟨by rw [zeros_val]; simp [val]⟩⟩
   case round =>
    obtain ⟨r, i, cy, rfl, rfl, hi2, hrlen, hru, hcy, hown, hb2, hz, hval⟩ := hrel
    have RY := Hd.mk ((R2.out.up hbel.out).up hb2.out)
    by_cases hlt2 : i < y.length
    ·obtain ⟨bd, yi, rfl, _, hyi, hcell2⟩ := RY.out.get hlt2
     have hy0 := u2.out.at_ i
     rw [hyi.out] at hy0
     obtain ⟨g, c6, z, hv6, hg1, hg2, hz6, hcell6, hfro, hset⟩ := hown.out.cell (i := i) (by have := hrlen.out; omega)
     injection hv6 with hv6a hv6b hv6c
     injection hv6a with hv6a
     injection hv6a with hv6a
     subst hv6a hv6c
     have HS := Hd.mk hset
     have hms := mul_step xk yi cy hx0 hy0 hcy.out
     have hms1 := hms.1
     have hms2 := hms.2.1
     have hms3 := Hd.mk hms.2.2
     have hcy1 := hcy.out.1
     have hcy2 := hcy.out.2
     have hlo0 : 0 ≤ xk * yi % 18446744073709551616 := by omega
     have haa := add64 (xk * yi % 18446744073709551616) cy 0 hlo0 hcy1 (by omega) (by omega)
     rw [Int.add_zero] at haa
     clear hms hset hv6b
     go_wp2_with fail
     refine (mul64 xk yi wr hx0 hy0).mono ?_
     rintro e w' ⟨rfl, rfl⟩
     go_wp2_with fail
     go_roundw
     case measure => first | (simp [intOf]; done) | (simp [intOf]; omega)
     case rel =>
      have hcs := carry_step (os := r) (i := i) (s := (xk * yi + cy) % 18446744073709551616) (c' := xk * yi / 18446744073709551616 + (xk * yi % 18446744073709551616 + cy) / 18446744073709551616) (y := xk * yi) (cy := cy)
       (by have := hrlen.out; omega) hru.out hms1 hcy1 (by omega) (by omega) (by
        have h0 : r.getD i 0 = 0 := by
         have := congrArg (fun t => t.getD 0 0) hz.out
         simpa [show 0 < y.length + 1 - i by omega] using this
        rw [h0, hms3.out]; omega)
      refine ⟨r.set i ((xk * yi + cy) % 18446744073709551616), i + 1, _, rfl, by go_num, by omega, ⟨by rw [List.length_set]; exact hrlen.out⟩, ⟨hru.out.set i (by omega) (by omega)⟩, ⟨by omega⟩, ⟨by have := HS.out ((xk * yi + cy) % 18446744073709551616); rwa [hrlen.out] at this⟩, ⟨hb2.out.setCell (Nat.le_refl _) _⟩, ⟨?_⟩, ⟨?_⟩⟩
      ·rw [List.drop_set_of_lt (by omega)]
       have := congrArg (List.drop 1) hz.out
       rw [List.drop_drop, List.drop_replicate] at this
       rw [this]; congr 1
      ·rw [hcs, val_take_succ, hyi.out, Nat.mul_add]
       have h8 := hval.out
       have e1 : (xk * yi).toNat = xk.toNat * yi.toNat := Int.toNat_mul hx0.1 hy0.1
       rw [e1, Nat.mul_add, ← h8, Nat.mul_left_comm xk.toNat]
       omega
    ·have hie : i = y.length := by omega
     subst hie
     obtain ⟨g, c6, z, hv6, hg1, hg2, hz6, hcell6, hfro, hset⟩ := hown.out.cell (i := y.length) (by have := hrlen.out; omega)
     injection hv6 with hv6a hv6b hv6c
     injection hv6a with hv6a
     injection hv6a with hv6a
     subst hv6a hv6c
     have HS := Hd.mk (hset cy)
     clear hset hv6b
     have hro2 := Hd.mk (own_below HC1.out hb2.out)
     have hbs := Hd.mk hb2.out.size
     have hne5 : Hd ((Value.slice A5 rs.length c5).ownBlock ≠ some ws.heap.size) := ⟨fun e => by have := (World.ownsRow.lt HC1.out _ e).2; omega⟩
     have HS2 : Hd (OwnI (wr.setCell ⟨ws.heap.size, y.length, none⟩ (.int .u64 cy)) w.heap.size 100 .u64 (.slice (some ⟨ws.heap.size, 0, none⟩) (y.length + 1) (y.length + 1)) (r.set y.length cy)) := ⟨by have := HS.out; rwa [hrlen.out] at this⟩
     have hb3 : Hd (Below ws.heap.size ws (wr.setCell ⟨ws.heap.size, y.length, none⟩ (.int .u64 cy))) := ⟨hb2.out.setCell (Nat.le_refl _) _⟩
     have hro3 := Hd.mk (own_below HC1.out hb3.out)
     have hro3a := Hd.mk (World.ownsRow.alloc hro3.out (.cells #[.slice (some ⟨ws.heap.size, 0, none⟩) (y.length + 1) (y.length + 1)] 48))
     have hsz3 : (wr.setCell ⟨ws.heap.size, y.length, none⟩ (.int .u64 cy)).heap.size = wr.heap.size := World.size_setCell ..
     have HSZ3 := Hd.mk hsz3
     have hnew := Hd.mk (Rd.new_ (wr.setCell ⟨ws.heap.size, y.length, none⟩ (.int .u64 cy)) #[.slice (some ⟨ws.heap.size, 0, none⟩) (y.length + 1) (y.length + 1)] 48 1 1 rfl)
     rw [hsz3] at hnew
     clear hsz3
     have hlen5 : rs.length ≤ 90000000 := by have := hrl.out; omega
     go_wp2_with (at_builtin; (refine wpList_append_rd _ rfl _ _ 151 rfl w.heap.size 48 i0 (.slice none 0 0) 1 24 Tryz.slSl hi hz0 hz1 hz2 rfl (by decide) _ _ _ rfl hro3a.out _ _ 1 1 _ rfl hnew.out ?c0 ?c1 ?c2 ?c3 ?_))
     case c0 => first | rfl | (intro u hu; simp at hu; subst hu; rfl)
     case c1 => unfold maxLen; omega
     case c2 => omega
     case c3 => have := HSZ3.out; have := hbs.out; have := HB.out; first | omega | (simp; omega)
     intro v' w' ho hg _
     have HP : Hd (RowsOwn w' w.heap.size v' (rs ++ [r.set y.length cy])) := ⟨RowsOwn.push hro3a.out
      (fun j r hr => let ⟨u, e, ho⟩ := HC2.out j r hr; ⟨u, e, (ho.below hb3.out).al _⟩) (HS2.out.al _) ho hg⟩
     have HB4 : Hd (Below w.heap.size w w') := ⟨grown_below hro3a.out hg ((hbel.out.trans (hb3.out.mono HB.out)).alloc (by have := HSZ3.out; have := hbs.out; have := HB.out; omega) _) (by have := HSZ3.out; have := hbs.out; have := HB.out; simp; omega)⟩
     clear ho hg
     go_wp2_with fail
     go_roundw
     case measure => first | (simp [intOf]; done) | (simp [intOf]; omega)
     case rel =>
      refine ⟨_, k + 1, by go_num, by omega, ⟨by rw [List.length_append, hrl.out]; rfl⟩, HP, HB4, ⟨fun j r' hr' => ?_⟩⟩
      have hrl2 := hrl.out
      rcases Nat.lt_trichotomy j rs.length with hj | hj | hj
      ·rw [List.getElem?_append_left hj] at hr'
       exact hrv.out j r' hr'
      ·subst hj
       simp at hr'
       subst hr'
       refine ⟨by rw [List.length_set, hrlen.out]; omega, hru.out.set _ hcy.out.1 hcy.out.2, ?_⟩
       have hv1 := hval.out
       have hv2 := val_set r y.length (by have := hrlen.out; omega) cy
       have hv3 : r.getD y.length 0 = 0 := by
        have := congrArg (fun t => t.getD 0 0) hz.out
        simpa using this
       rw [List.take_length] at hv1
       rw [hv3, Int.toNat_zero, Nat.mul_zero, Nat.add_zero] at hv2
       rw [hrl2, hxk.out, hv2, hv1]
      ·rw [List.getElem?_eq_none (by simp; omega)] at hr'; cases hr'
  ·have hke : k = x.length := by omega
   have CS := Hd.mk (limb_sum A5 c5 rs ws HRR.out hl5 (by have := hrl.out; omega) (fun r hr => by
    obtain ⟨j, hj⟩ := List.mem_iff_getElem?.1 hr
    have := hrv.out j r hj
    exact ⟨this.1, this.2.1⟩))
   go_wp2_with fail
   refine CS.out.mono ?_
   rintro e w' ⟨v, rfl, ho, hb⟩
   have HO := Hd.mk ho
   have HBB := Hd.mk hb
   clear ho hb
   go_wp2_with fail
   go_ret
   refine ⟨_, rfl, ?_, hbel.out.trans (HBB.out.mono hbel.out.size)⟩
   rw [← rowsVal_mul x rs (val y) (by rw [hrl.out, hke]) (fun j r hr => (hrv.out j r hr).2.2)]
   exact HO.out.low hbel.out.size
end Go.Proofs.YtjanagclahkfdaaGreat
