/- Parts of the proof, joined: each theorem says what it shows. -/
import Derived.Test.YtgjkgkgieeoalaaGreatF01
import Derived.Test.YtgjkgkgieeoalaaGreatF04
import Derived.Deep.RegionHeld3
import Derived.WalkMore
set_option linter.unusedVariables false
set_option linter.unusedSimpArgs false
set_option maxHeartbeats 24000000
set_option maxRecDepth 100000
namespace Go.Proofs.YtgjkgkgieeoalaaGreat
open Go.RowKit
theorem Rd.win {w : World} {g off n : Nat} {t : TypeId} {cur : List Value} {U : List Int} (hb : Bk w g t cur.toArray) (h : (cur.drop off).take n = ints .u64 U) (hn : U.length = n) : RdI w .u64 (some ⟨g, off, none⟩) U := by
 refine ⟨by simp [ints], fun h0 => ⟨_, rfl, hb.lt, fun j u hu => ?_⟩⟩
 rw [add_win, hb.cell, ← h] at *
 rw [List.getElem?_take] at hu
 split at hu
 ·rw [List.getElem?_drop] at hu
  simpa using hu
 ·cases hu
theorem grown_of {w w3 w' : World} {row row2 : Option Nat} (hg : w3.drew.grownBy w' row) (hb : Below w.heap.size w w3) (hr : ∀ k, k < w.heap.size → some k ≠ row) : w.grownBy w' row2 :=
 ⟨hg.os.trans hb.os, hg.tape.trans hb.tape, hg.output.trans hb.output, ah hb.size hg.size, fun k hk _ => (hg.block k (Nat.lt_of_lt_of_le hk hb.size) (hr k hk)).trans (hb.block k hk)⟩
theorem digit_1 (g off c' gv gq gu d : Nat) (B : Option Addr) (cur : List Value) (U V : List Int) (q : Int) (w : World) (hb : Bk w g 112 cur.toArray) (hU : (cur.drop off).take U.length = ints .u64 U) (hc' : U.length ≤ c')
    (hV : RdI w .u64 B V) (hd : V.length ≤ d) (uU : U64 U) (uV : U64 V) (hu9 : U.length ≤ 90000000) (hv9 : V.length ≤ 90000000) (hu1 : 0 < U.length)
    (bv : Bk w gv 61 #[.slice B V.length d]) (bq : Bk w gq 112 #[.int .u64 q]) (bu : Bk w gu 61 #[.slice (some ⟨g, off, none⟩) U.length c']) (q0 : 0 ≤ q) (q1 : q < 18446744073709551616) :
    Calls Tryz.prog 300 #[.pointer (some ⟨gv, 0, none⟩), .pointer (some ⟨gq, 0, none⟩), .pointer (some ⟨gu, 0, none⟩)] w fun e w' =>
     (val U < val V * q.toNat ∧ e = .returned (.bool false) ∧ Below w.heap.size w w') ∨
     (val V * q.toNat ≤ val U ∧ e = .returned (.bool true) ∧ w.grownBy w' (some g) ∧ ∃ R, Bk w' g 112 (splice cur off (ints .u64 R)).toArray ∧ R.length = U.length ∧ U64 R ∧ val R = val U - val V * q.toNat) := by
 have HW := aa (Rd.win hb hU rfl)
 have HBk := aa hb
 have HV := aa hV
 have hlen : (cur.drop off).length ≥ U.length := by
  have := congrArg List.length hU
  rw [List.length_take, ints_len] at this
  omega
 rw [List.length_drop] at hlen
 have HUU := aa hU
 clear hb hV hU
 have lv : w.cell? ⟨gv, 0, none⟩ = some (.slice B V.length d) := by rw [bv.cell]; rfl
 have lq : w.cell? ⟨gq, 0, none⟩ = some (.int .u64 q) := by rw [bq.cell]; rfl
 have b1 : Hd (Below w.heap.size w (w.alloc (.cells #[.int .u64 q] 112))) := ⟨(ag _ _).alloc (ae _) _⟩
 have r1 : Hd (RdI (w.alloc (.cells #[.int .u64 q] 112)) .u64 (some ⟨w.heap.size, 0, none⟩) [q]) := ⟨by
  have := Rd.new_ w #[.int .u64 q] 112 1 1 rfl
  unfold RdI
  rw [show (w.alloc (.cells #[.int .u64 q] 112)).heap.size = w.heap.size + 1 by simp]
  exact this⟩
 have CM := aa (limb_Mul B (some ⟨w.heap.size, 0, none⟩) d 1 V [q] _ (HV.out.up b1.out) hd hv9 r1.out (ae _) (by simp) uV (U64.nil.cons q0 q1))
 have bu_ := aa bu
 have hgl := bu.lt
 clear bq bv bu
 go_enter Tryz.func300, Tryz.ntmps300
 go_wp2_with fail
 refine CM.out.mono ?_
 rintro e w2 ⟨v, rfl, ho, hb⟩
 have vq : val [q] = q.toNat := by simp [val]
 rw [vq] at ho
 have B2 : Hd (Below w.heap.size w w2) := ⟨b1.out.trans (hb.mono (by simp))⟩
 obtain ⟨A4, c4, rfl, hc4, _, hr4⟩ := ho.reads
 have bu2 := aa (bu_.out.below B2.out hgl)
 have lu : w2.cell? ⟨gu, 0, none⟩ = some (.slice (some ⟨g, off, none⟩) U.length c') := by rw [bu2.out.cell]; rfl
 have HR4 := aa hr4
 have hrl : (limbs (val V * q.toNat)).length ≤ V.length + 1 := by
  rw [limbs_len, Nat.pow_succ]
  have := val_lt uV
  have h2 : q.toNat < 18446744073709551616 := by omega
  exact Nat.mul_lt_mul_of_lt_of_le this (Nat.le_of_lt h2) (by omega)
 have RU := aa (HW.out.up B2.out)
 clear ho hb CM r1 b1 hr4 lv lq
 by_cases hlt : val U < val V * q.toNat
 ·have CS := aa (limb_Sub_lt (some ⟨g, off, none⟩) A4 c' c4 U (limbs (val V * q.toNat)) w2 RU.out hc' (by omega) HR4.out hc4 (by omega) uU (limbs_u64 _) (by rw [val_limbs]; exact hlt))
  have HL := aa hlt
  clear hlt
  go_wp2_with fail
  refine CS.out.mono ?_
  rintro e w3 ⟨rfl, hd3⟩
  have HD := aa hd3
  clear hd3
  go_wp2_with fail
  go_ret
  exact .inl ⟨HL.out, rfl, B2.out.trans (HD.out.below.mono B2.out.size)⟩
 ·have hge : val V * q.toNat ≤ val U := by omega
  have CS := aa (limb_Sub_ge (some ⟨g, off, none⟩) A4 c' c4 U (limbs (val V * q.toNat)) w2 RU.out hc' (by omega) HR4.out hc4 (by omega) uU (limbs_u64 _) (by rw [val_limbs]; exact hge))
  rw [val_limbs] at CS
  have HG := aa hge
  clear hlt hge
  go_wp2_with fail
  refine CS.out.mono ?_
  rintro e w3 ⟨v, rfl, ho, hb⟩
  obtain ⟨A5, c5, rfl, hc5, _, _⟩ := ho.reads
  have hxl : (limbs (val U - val V * q.toNat)).length ≤ U.length := by
   rw [limbs_len]
   have := val_lt uU
   omega
  have HX : Hd (val (limbs (val U - val V * q.toNat)) = val U - val V * q.toNat) := ⟨val_limbs _⟩
  have HXU := aa (limbs_u64 (val U - val V * q.toNat))
  generalize limbs (val U - val V * q.toNat) = x at *
  have HO := aa ho
  have B3 : Hd (Below w.heap.size w w3) := ⟨B2.out.trans (hb.mono B2.out.size)⟩
  have hs2 := B2.out.size
  have hs3 := hb.size
  have bu3 := aa (bu_.out.below B3.out hgl)
  have bg3 := aa (HBk.out.below B3.out HBk.out.lt)
  have hgl2 := HBk.out.lt
  have lu3 : w3.cell? ⟨gu, 0, none⟩ = some (.slice (some ⟨g, off, none⟩) U.length c') := by rw [bu3.out.cell]; rfl
  have hne : ∀ k, k < w.heap.size → some k ≠ (Value.slice A5 x.length c5).ownBlock := fun k hk e => by
   have := (World.ownsRow.lt HO.out k e.symm).1
   omega
  have HNE := aa hne
  have hM : IntKind.i64.wrap ((U.length : Int) - (x.length : Int)) = (U.length - x.length : Nat) := by rw [IntKind.wrap_i64]; omega
  have HM := aa hM
  clear ho hb CS lu hne hM hs2
  go_wp2_with fail
  have HL8 : Hd ((x ++ List.replicate (U.length - x.length) 0).length = U.length) := ⟨by simp; omega⟩
  have hfit8 : off + (ints .u64 (x ++ List.replicate (U.length - x.length) 0)).length ≤ cur.length := by rw [ints_len, HL8.out]; omega
  have HF8 := aa hfit8
  clear hfit8
  go_region_law (first
   | (refine step_append_zeros _ rfl _ _ 3 rfl .i64 .i64 (by kernel_rfl) w2.heap.size _ _ rfl HO.out.d1 _ _ rfl HM.out (by omega) hs3 ?_
      intro v' w' ho hg _
      obtain ⟨A8, c8, rfl, hc8, _, hr8⟩ := ho.reads
      obtain ⟨a8, rfl, _, hsrc⟩ := hr8.2 (by rw [HL8.out]; exact hu1)
      have bg8 := aa (Bk.grown bg3.out.d1 hg (HNE.out _ hgl2))
      have bu8 := aa (Bk.grown bu3.out.d1 hg (HNE.out _ hgl))
      have lu8 : w'.cell? ⟨gu, 0, none⟩ = some (.slice (some ⟨g, off, none⟩) U.length c') := by rw [bu8.out.cell]; rfl
      have HS8 := aa hsrc
      have HG8 := aa hg
      clear ho hg hr8 hsrc)
   | (refine step_copy_row rfl _ _ _ _ rfl 112 Tryz.slU64 (inf0 Tryz.infU64) g off _ _ _ _ _ rfl rfl cur _ bg8.out (ints .u64 (x ++ List.replicate (U.length - x.length) 0)) (by rw [ints_len, HL8.out]; exact (Nat.min_self _).symm) HS8.out HF8.out (ints_one _ _) ?_))
  all_goals (
   go_wp2_with fail
   go_ret
   refine .inr ⟨HG.out, rfl, row_grown ?_ _, _, bg8.out.row _, HL8.out, HXU.out.app (zeros_u64 _), ?_⟩
   ·exact grown_of HG8.out B3.out HNE.out
   ·rw [val_app, zeros_val, Nat.mul_zero, Nat.add_zero]; exact HX.out)
theorem val_top {l : List Int} {m : Nat} (h : l.length = m + 1) : val l = val (l.take m) + 18446744073709551616 ^ m * (l.getD m 0).toNat := by
 rw [← val_take_succ, ← h, List.take_length]
theorem guess_ge {U V : List Int} {m : Nat} (uU : U64 U) (uV : U64 V) (hV : V.length = m + 1) (hU : U.length = m + 2) (un un1 vn D : Int) (h1 : U.getD (m + 1) 0 = un) (h2 : U.getD m 0 = un1) (h3 : V.getD m 0 = vn)
    (hlt : un < vn) (hD : D = (un * 18446744073709551616 + un1) / vn) : val U / val V ≤ D.toNat ∧ 0 ≤ D ∧ D < 18446744073709551616 := by
 have a1 := uU.at_ (m + 1)
 have a2 := uU.at_ m
 have a3 := uV.at_ m
 rw [h1] at a1; rw [h2] at a2; rw [h3] at a3
 have hVv := val_top hV
 have hUv := val_top (l := U) (m := m + 1) hU
 rw [val_take_succ, h1, h2] at hUv
 rw [h3] at hVv
 have hlow := val_lt (uU.take m)
 rw [List.length_take, hU, Nat.min_eq_left (by omega)] at hlow
 obtain ⟨a, rfl⟩ := Int.eq_ofNat_of_zero_le a1.1
 obtain ⟨b, rfl⟩ := Int.eq_ofNat_of_zero_le a2.1
 obtain ⟨c, rfl⟩ := Int.eq_ofNat_of_zero_le a3.1
 have hc : 0 < c := by omega
 have hD2 : D = ((a * 18446744073709551616 + b) / c : Nat) := by rw [hD]; simp
 clear hD
 subst hD2
 simp only [Int.toNat_natCast] at *
 have hdm := Nat.div_add_mod (a * 18446744073709551616 + b) c
 have hml := Nat.mod_lt (a * 18446744073709551616 + b) hc
 have hub : (a * 18446744073709551616 + b) / c < 18446744073709551616 := by
  apply Nat.div_lt_of_lt_mul
  have : (a + 1) * 18446744073709551616 ≤ c * 18446744073709551616 := Nat.mul_le_mul_right _ (by omega)
  omega
 generalize (a * 18446744073709551616 + b) / c = d at *
 generalize (a * 18446744073709551616 + b) % c = r at *
 refine ⟨?_, by omega, by omega⟩
 rw [Nat.pow_succ] at hUv
 have hp : 0 < 18446744073709551616 ^ m := Nat.pow_pos (by decide)
 generalize 18446744073709551616 ^ m = P at *
 have key : val U < val V * (d + 1) := by
  have e1 : P * (a * 18446744073709551616 + b + 1) ≤ P * (c * (d + 1)) := Nat.mul_le_mul_left _ (by rw [Nat.mul_add]; omega)
  have e2 : P * (c * (d + 1)) = P * c * (d + 1) := by rw [Nat.mul_assoc]
  have e3 : P * c * (d + 1) ≤ val V * (d + 1) := Nat.mul_le_mul_right _ (by omega)
  rw [Nat.mul_add, Nat.mul_add] at e1
  have e4 : P * (a * 18446744073709551616) = P * 18446744073709551616 * a := by rw [Nat.mul_comm a, Nat.mul_assoc]
  omega
 exact Nat.le_of_lt_succ (Nat.div_lt_of_lt_mul key)
theorem quot_digit (g off c' d : Nat) (B : Option Addr) (cur : List Value) (U V : List Int) (w : World) (hb : Bk w g 112 cur.toArray) (hU : (cur.drop off).take U.length = ints .u64 U) (hc' : U.length ≤ c')
    (hV : RdI w .u64 B V) (hd : V.length ≤ d) (uU : U64 U) (uV : U64 V) (hu9 : U.length ≤ 90000000) (hv1 : 0 < V.length) (hUV : U.length = V.length + 1) (hlt : val U < 18446744073709551616 * val V) :
    Calls Tryz.prog 279 #[.slice (some ⟨g, off, none⟩) U.length c', .slice B V.length d] w fun e w' =>
     e = .returned (.int .u64 (val U / val V : Nat)) ∧ w.grownBy w' (some g) ∧ ∃ R, Bk w' g 112 (splice cur off (ints .u64 R)).toArray ∧ R.length = U.length ∧ U64 R ∧ val R = val U % val V := by
 have HUV := aa hUV
 have HBk := aa hb
 have HUU := aa hU
 have HLT := aa hlt
 have HV := aa hV
 have hgl := hb.lt
 have hv9 : V.length ≤ 90000000 := by omega
 have hfl : Hd (val U / val V < 18446744073709551616) := ⟨Nat.div_lt_of_lt_mul (by rw [Nat.mul_comm]; exact hlt)⟩
 have hv0 : Hd (0 < val V) := ⟨by omega⟩
 obtain ⟨bd, vn, rfl, hbl, hvn, hcv⟩ := hV.get (i := V.length - 1) (by omega)
 have RU := Rd.win hb hU rfl
 obtain ⟨ad, un, had, _, hun, hcu⟩ := RU.get (i := V.length) (by omega)
 injection had with had
 subst had
 obtain ⟨ad, un1, had, _, hun1, hcu1⟩ := RU.get (i := V.length - 1) (by omega)
 injection had with had
 subst had
 rw [add_win] at hcu hcu1
 obtain ⟨N1, hN1⟩ : ∃ N1, V.length - 1 = N1 := ⟨_, rfl⟩
 rw [hN1] at hvn hcv hun1 hcu1
 have n1 : IntKind.i64.wrap ((V.length : Int) - 1) = N1 := by rw [IntKind.wrap_i64]; omega
 have n3 : (0 : Int) ≤ (N1 : Int) := by omega
 have n4 : (N1 : Int) < V.length := by omega
 have n5 : (N1 : Int) < U.length := by omega
 have n6 : (V.length : Int) < U.length := by omega
 have a1 := uU.at_ V.length
 have a2 := uU.at_ N1
 have a3 := uV.at_ N1
 rw [hun.out] at a1; rw [hun1.out] at a2; rw [hvn.out] at a3
 have HN1 := aa hN1
 clear hN1
 clear hb hU hlt hUV RU hV
 go_enter Tryz.func279, Tryz.ntmps279
 go_wp2_with fail
 obtain ⟨W, hW⟩ : ∃ W, W = ((w.alloc (Obj.cells #[Value.slice (some { block := g, off := off }) U.length c'] 61)).alloc (Obj.cells #[Value.slice (some bd) V.length d] 61)) := ⟨_, rfl⟩
 rw [← hW]
 have bu : Hd (Bk W w.heap.size 61 #[.slice (some ⟨g, off, none⟩) U.length c']) := ⟨by rw [hW]; exact (Bk.new_ _ _ _).al _⟩
 have bv : Hd (Bk W (w.heap.size + 1) 61 #[.slice (some bd) V.length d]) := ⟨by
  rw [hW]
  have := Bk.new_ (w.alloc (Obj.cells #[Value.slice (some { block := g, off := off }) U.length c'] 61)) 61 #[.slice (some bd) V.length d]
  simpa using this⟩
 have hWs : W.heap.size = w.heap.size + 2 := by rw [hW]; simp
 have hWb : Hd (Below w.heap.size w W) := ⟨by rw [hW]; exact ((ag _ _).alloc (ae _) _).alloc (by simp) _⟩
 have HWS := aa hWs
 clear hW hWs
 have lv : W.cell? ⟨w.heap.size + 1, 0, none⟩ = some (.slice (some bd) V.length d) := by rw [bv.out.cell]; rfl
 go_step3
 go_wp2_with fail
 obtain ⟨W2, hW2⟩ : ∃ W2, W2 = (W.alloc (Obj.cells #[Value.int .u64 18446744073709551615] 112)) := ⟨_, rfl⟩
 rw [← hW2]
 have bu2 : Hd (Bk W2 w.heap.size 61 #[.slice (some ⟨g, off, none⟩) U.length c']) := ⟨by rw [hW2]; exact bu.out.al _⟩
 have bv2 : Hd (Bk W2 (w.heap.size + 1) 61 #[.slice (some bd) V.length d]) := ⟨by rw [hW2]; exact bv.out.al _⟩
 have bq2 : Hd (Bk W2 W.heap.size 112 #[.int .u64 18446744073709551615]) := ⟨by rw [hW2]; exact Bk.new_ W 112 _⟩
 have hW2b : Hd (Below w.heap.size w W2) := ⟨by rw [hW2]; exact hWb.out.alloc (by have := HWS.out; omega) _⟩
 have hgq : w.heap.size + 2 ≤ W.heap.size := by have := HWS.out; omega
 clear hW2 lv bu bv hWb
 generalize W.heap.size = gq at *
 clear HWS
 have lu2 : W2.cell? ⟨w.heap.size, 0, none⟩ = some (.slice (some ⟨g, off, none⟩) U.length c') := by rw [bu2.out.cell]; rfl
 have lv2 : W2.cell? ⟨w.heap.size + 1, 0, none⟩ = some (.slice (some bd) V.length d) := by rw [bv2.out.cell]; rfl
 have lcu : W2.cell? ⟨g, off + V.length, none⟩ = some (.int .u64 un) := (hW2b.out.cell (p := ⟨g, off + V.length, none⟩) hgl).trans hcu
 have lcu1 : W2.cell? ⟨g, off + N1, none⟩ = some (.int .u64 un1) := (hW2b.out.cell (p := ⟨g, off + N1, none⟩) hgl).trans hcu1
 have lcv : W2.cell? (bd.add N1) = some (.int .u64 vn) := (hW2b.out.cell (by rw [add_block]; exact hbl)).trans hcv
 have lq2 : W2.cell? ⟨gq, 0, none⟩ = some (.int .u64 18446744073709551615) := by rw [bq2.out.cell]; rfl
 have fq2 : W2.frozen? ⟨gq, 0, none⟩ = false := bq2.out.froz 0
 clear hcu hcu1 hcv
 have hf1 : gq ≠ w.heap.size := by omega
 have hf2 : gq ≠ w.heap.size + 1 := by omega
 have hf3 : gq ≠ g := by omega
 have hf4 : gq ≠ bd.block := by omega
 have HQD : Hd (un < vn → ∀ D, D = (un * 18446744073709551616 + un1) / vn → val U / val V ≤ D.toNat ∧ 0 ≤ D ∧ D < 18446744073709551616) := ⟨fun hq D hD =>
  guess_ge (m := N1) uU uV (by have := HN1.out; omega) (by have := HUV.out; have := HN1.out; omega) un un1 vn D (by rw [show N1 + 1 = V.length by have := HN1.out; omega]; exact hun.out) hun1.out hvn.out hq hD⟩
 go_quiet (fail)
 go_upto_if 19 with (fail)
 go_cut [20] (fun _ wx => ∃ q : Int, Hd (val U / val V ≤ q.toNat) ∧ 0 ≤ q ∧ q < 18446744073709551616 ∧ Hd (Bk wx w.heap.size 61 #[.slice (some ⟨g, off, none⟩) U.length c']) ∧
  Hd (Bk wx (w.heap.size + 1) 61 #[.slice (some bd) V.length d]) ∧ Hd (Bk wx gq 112 #[.int .u64 q]) ∧ Hd (Below w.heap.size w wx))
 case first =>
  by_cases hq : un < vn
  ·obtain ⟨D, hD⟩ : ∃ D, D = (un * 18446744073709551616 + un1) / vn := ⟨_, rfl⟩
   obtain ⟨k1, k2, k3⟩ := HQD.out hq D hD
   have DV := aa (fun W' => div64 un un1 vn W' a1.1 hq a3.2 a2.1 a2.2)
   rw [← hD] at DV
   have K1 := aa k1
   clear hD k1
   have hqd : decide (un < vn) = true := decide_eq_true hq
   go_wp2_with fail
   go_region_held3 (fun w' => w'.cell? ⟨w.heap.size, 0, none⟩ = some (.slice (some ⟨g, off, none⟩) U.length c') ∧ w'.cell? ⟨w.heap.size + 1, 0, none⟩ = some (.slice (some bd) V.length d) ∧
       w'.cell? ⟨g, off + V.length, none⟩ = some (.int .u64 un) ∧ w'.cell? ⟨g, off + N1, none⟩ = some (.int .u64 un1) ∧ w'.cell? (bd.add N1) = some (.int .u64 vn))
    (first
     | exact ⟨lu2, lv2, lcu, lcu1, lcv⟩
     | exact ⟨(far1 rfl hf1).trans lu2, (far1 rfl hf2).trans lv2, (far1 rfl hf3).trans lcu, (far1 rfl hf3).trans lcu1, (far1 (add_block _ _) hf4).trans lcv⟩)
    (first | (go_at_call 299; refine (DV.out _).mono ?_; rintro e w' ⟨rfl, ⟨nq2, rfl⟩⟩))
   go_wp2_with fail
   go_meet
   exact ⟨D, K1, k2, k3, ⟨(bu2.out.dn _).far hf1.symm _⟩, ⟨(bv2.out.dn _).far hf2.symm _⟩, ⟨(bq2.out.dn _).set_ 0 _⟩, ⟨(Below.dn hW2b.out _).setCell (by simp; omega) _⟩⟩
  ·have hqd : decide (un < vn) = false := decide_eq_false hq
   go_wp2_with fail
   go_meet
   exact ⟨18446744073709551615, ⟨by have := hfl.out; omega⟩, by omega, by omega, ⟨bu2.out.dn _⟩, ⟨bv2.out.dn _⟩, ⟨bq2.out.dn _⟩, ⟨Below.dn hW2b.out _⟩⟩
 case rest =>
  obtain ⟨q, K, q0, q1, bu3, bv3, bq3, hb3⟩ := hcut
  clear lu2 lv2 lcu lcu1 lcv lq2 fq2 bu2 bv2 bq2 hW2b HQD
  go_wp2_with fail
  go_step3
  go_wp2_with fail
  go_loopg [39] q.toNat (fun k _ wr => ∃ q : Int, Hd (k = q.toNat) ∧ Hd (val U / val V ≤ q.toNat) ∧ 0 ≤ q ∧ q < 18446744073709551616 ∧ Hd (Bk wr w.heap.size 61 #[.slice (some ⟨g, off, none⟩) U.length c']) ∧
      Hd (Bk wr (w.heap.size + 1) 61 #[.slice (some bd) V.length d]) ∧ Hd (Bk wr gq 112 #[.int .u64 q]) ∧ Hd (Below w.heap.size w wr))
  case atStart => exact ⟨q, ⟨rfl⟩, K, q0, q1, bu3, bv3, bq3, hb3⟩
  case round =>
   clear K q0 q1 bu3 bv3 bq3 hb3
   obtain ⟨q, hk, K, q0, q1, bu3, bv3, bq3, hb3⟩ := hrel
   have CD := aa (digit_1 g off c' (w.heap.size + 1) gq w.heap.size d (some bd) cur U V q wr (HBk.out.below hb3.out hgl) HUU.out hc' (HV.out.up hb3.out) hd uU uV hu9 hv9 (by omega) bv3.out bq3.out bu3.out q0 q1)
   go_wp2_with fail
   refine CD.out.mono ?_
   rintro e w4 (⟨c1, rfl, hb4⟩ | ⟨c1, rfl, hg4, R, hR1, hR2, hR3, hR4⟩)
   ·have H1 := aa c1
    have H4 := aa hb4
    have bq4 := aa (bq3.out.up hb4)
    have lq4 : w4.cell? ⟨gq, 0, none⟩ = some (.int .u64 q) := by rw [bq4.out.cell]; rfl
    have fq4 : w4.frozen? ⟨gq, 0, none⟩ = false := bq4.out.froz 0
    have hq1 : val U / val V < q.toNat := Nat.div_lt_of_lt_mul c1
    have hqz : 0 < q.toNat := Nat.lt_of_le_of_lt (Nat.zero_le _) hq1
    have hqe : (q - 1).toNat = q.toNat - 1 := by omega
    have hw : IntKind.u64.wrap (q - 1) = q - 1 := by rw [IntKind.wrap_u64]; omega
    have hq1' : val U / val V ≤ (q - 1).toNat := by rw [hqe]; exact Nat.le_sub_one_of_lt hq1
    clear hqe
    have HQ1 := aa hq1'
    have hqp : 1 ≤ q := by omega
    clear c1 hb4 hq1 hq1'
    go_wp2_with fail
    go_roundg (q - 1).toNat
    case measure => have := hk.out; omega
    case rel =>
     exact ⟨q - 1, ⟨rfl⟩, HQ1, by omega, by omega, ⟨(bu3.out.up H4.out).far hf1.symm _⟩, ⟨(bv3.out.up H4.out).far hf2.symm _⟩, ⟨bq4.out.set_ 0 _⟩, ⟨(hb3.out.trans (H4.out.mono hb3.out.size)).setCell (by simp; omega) _⟩⟩
   ·have H1 := aa c1
    have H4 := aa hg4
    have bq4 := aa (bq3.out.grown hg4 (fun e => hf3 (by injection e)))
    have lq4 : w4.cell? ⟨gq, 0, none⟩ = some (.int .u64 q) := by rw [bq4.out.cell]; rfl
    have HR := aa (af hR1 (af hR2 (af hR3 hR4)))
    clear c1 hg4 hR1 hR2 hR3 hR4
    go_wp2_with fail
    simp only [Exit.inBlock, Exit.then, Exit.noGoto_ret]
    go_ret
    have e0 : val U / val V = q.toNat := Nat.le_antisymm K.out ((Nat.le_div_iff_mul_le hv0.out).2 (by rw [Nat.mul_comm]; exact H1.out))
    obtain ⟨h1, h2, h3, h4⟩ := HR.out
    refine ⟨by rw [e0, Int.toNat_of_nonneg q0]; rfl, ⟨H4.out.os.trans hb3.out.os, H4.out.tape.trans hb3.out.tape, H4.out.output.trans hb3.out.output, ah hb3.out.size H4.out.size, fun k hk hne => (H4.out.block k (Nat.lt_of_lt_of_le hk hb3.out.size) hne).trans (hb3.out.block k hk)⟩, R, h1, h2, h3, ?_⟩
    have := Nat.div_add_mod (val U) (val V)
    rw [e0] at this
    omega
def Wn (w : World) (g c : Nat) (l : List Int) : Prop := ∃ cur : List Value, Bk w g 112 cur.toArray ∧ cur.length = c ∧ l.length ≤ c ∧ cur.take l.length = ints .u64 l
section
variable {w w' : World} {g c : Nat} {l : List Int}
theorem Wn.lt (h : Wn w g c l) : g < w.heap.size := let ⟨_, hb, _⟩ := h; hb.lt
theorem Wn.of_own {base : Nat} {v : Value} (h : OwnI w base 112 .u64 v l) (hl : 0 < l.length) : ∃ g c, v = .slice (some ⟨g, 0, none⟩) l.length c ∧ base ≤ g ∧ l.length ≤ c ∧ c ≤ maxLen ∧ Wn w g c l := by
 rcases h.2 with ⟨_, h0⟩ | ⟨g, cap, cur, e1, h2, h3, h4, h5, h6, h7⟩
 ·omega
 ·exact ⟨g, cap, e1, h2, h4, h5, cur.toList, by simpa [Bk] using h3, by simpa using h6, h4, by simpa using h7⟩
theorem Wn.rd (h : Wn w g c l) : RdI w .u64 (some ⟨g, 0, none⟩) l := by
 obtain ⟨cur, hb, h1, h2, h3⟩ := h
 exact Rd.win hb (by simpa using h3) rfl
theorem Wn.own (h : Wn w g c l) {base : Nat} (hb : base ≤ g) (hc : c ≤ maxLen) : OwnI w base 112 .u64 (.slice (some ⟨g, 0, none⟩) l.length c) l := by
 obtain ⟨cur, hk, h1, h2, h3⟩ := h
 exact ⟨by simp [ints], .inr ⟨g, c, cur.toArray, rfl, hb, hk, h2, hc, by simpa using h1, by simpa using h3⟩⟩
theorem Wn.below {B : Nat} (h : Wn w g c l) (hb : Below B w w') (hg : g < B) : Wn w' g c l := let ⟨cur, hk, r⟩ := h; ⟨cur, hk.below hb hg, r⟩
theorem Wn.up (h : Wn w g c l) (hb : Below w.heap.size w w') : Wn w' g c l := h.below hb h.lt
theorem Wn.grown {row : Option Nat} (h : Wn w g c l) (hb : w.grownBy w' row) (hg : some g ≠ row) : Wn w' g c l := let ⟨cur, hk, r⟩ := h; ⟨cur, hk.grown hb hg, r⟩
theorem Wn.far (h : Wn w g c l) {p : Addr} (hp : g ≠ p.block) (u : Value) : Wn (w.setCell p u) g c l := let ⟨cur, hk, r⟩ := h; ⟨cur, hk.far hp u, r⟩
theorem Wn.al (h : Wn w g c l) (o : Obj) : Wn (w.alloc o) g c l := let ⟨cur, hk, r⟩ := h; ⟨cur, hk.al o, r⟩
theorem Wn.dn (h : Wn w g c l) (n : Nat) : Wn (w.drewN n) g c l := h
theorem Wn.cell (h : Wn w g c l) {i : Nat} (hi : i < l.length) : w.cell? ⟨g, i, none⟩ = some (.int .u64 (l.getD i 0)) ∧ w.frozen? ⟨g, i, none⟩ = false := by
 obtain ⟨cur, hk, h1, h2, h3⟩ := h
 refine ⟨?_, hk.froz i⟩
 rw [hk.cell, ← ints_get .u64 l i hi, ← h3, List.getElem?_take_of_lt hi]
 simp
theorem Wn.set (h : Wn w g c l) {i : Nat} (hi : i < l.length) (x : Int) : Wn (w.setCell ⟨g, i, none⟩ (.int .u64 x)) g c (l.set i x) := by
 obtain ⟨cur, hk, h1, h2, h3⟩ := h
 refine ⟨cur.set i (.int .u64 x), by simpa using hk.set_ i (.int .u64 x), by simpa using h1, by simpa using h2, ?_⟩
 rw [List.length_set, List.take_set, h3]
 simp [ints, List.map_set]
theorem Wn.new_ (w : World) (n : Nat) : Wn (w.alloc (.cells (zer n) 112)) w.heap.size n (List.replicate n 0) :=
 ⟨(zer n).toList, by simpa using Bk.new_ w 112 (zer n), by simp [zer, ints], by simp, by rw [zer_list]; exact List.take_of_length_le (by simp [ints])⟩
theorem splice_take {α : Type} (L : List α) (i n : Nat) (cs : List α) (h : i + cs.length ≤ n) (hn : n ≤ L.length) : (splice L i cs).take n = splice (L.take n) i cs := by
 unfold splice
 rw [List.take_take, Nat.min_eq_left (by omega), List.take_append, List.length_take, Nat.min_eq_left (by omega), List.take_of_length_le (l := L.take i) (by rw [List.length_take]; omega)]
 congr 1
 rw [List.take_append, List.take_of_length_le (by omega)]
 congr 1
 rw [List.take_drop]
 congr 2
 omega
theorem ints_splice (k : IntKind) (l : List Int) (i : Nat) (r : List Int) : ints k (splice l i r) = splice (ints k l) i (ints k r) := by
 simp [ints, splice, List.map_take, List.map_drop]
theorem Wn.splice {R : List Int} {i : Nat} {cur : List Value} (h1 : cur.length = c) (h2 : l.length ≤ c) (h3 : cur.take l.length = ints .u64 l) (hi : i + R.length ≤ l.length) (hk : Bk w' g 112 (Go.splice cur i (ints .u64 R)).toArray) : Wn w' g c (Go.splice l i R) := by
 have e := length_splice l i R hi
 refine ⟨_, hk, ?_, by omega, ?_⟩
 ·rw [length_splice _ _ _ (by rw [ints_len]; omega)]; exact h1
 ·rw [e, splice_take _ _ _ _ (by rw [ints_len]; omega) (by omega), h3, ints_splice]
end
theorem U64.splice {l R : List Int} (h : U64 l) (hR : U64 R) (i : Nat) : U64 (splice l i R) := (h.take i).app (hR.app (h.drop _))
theorem div_win {os : List Int} {n i V : Nat} (hu : U64 os) (hin : i + n + 1 ≤ os.length) (hV : V < 18446744073709551616 ^ n) (hlt : val (os.drop (i + 1)) < V) :
    val (os.drop (i + n + 1)) = 0 ∧ val (os.drop i) = val ((os.drop i).take (n + 1)) ∧ val ((os.drop i).take (n + 1)) < 18446744073709551616 * V := by
 have h0 := val_take_drop (os.drop (i + 1)) n (by rw [List.length_drop]; omega)
 rw [List.drop_drop, show i + 1 + n = i + n + 1 by omega] at h0
 have z : val (os.drop (i + n + 1)) = 0 := by
  rcases Nat.eq_zero_or_pos (val (os.drop (i + n + 1))) with h | h
  ·exact h
  ·have := Nat.le_mul_of_pos_right (18446744073709551616 ^ n) h
   omega
 have h1 := val_take_drop (os.drop i) (n + 1) (by rw [List.length_drop]; omega)
 rw [List.drop_drop, show i + (n + 1) = i + n + 1 by omega, z, Nat.mul_zero, Nat.add_zero] at h1
 refine ⟨z, h1, ?_⟩
 rw [← h1, drop_at (l := os) (by omega), val]
 have := hu.at_ i
 omega
theorem div_done {os qs R : List Int} {n i V A D : Nat} (hin : i + n + 1 ≤ os.length) (hq : i < qs.length) (hR : R.length = n + 1) (z : val (os.drop (i + n + 1)) = 0) (h1 : val (os.drop i) = val ((os.drop i).take (n + 1)))
    (hD : D = val ((os.drop i).take (n + 1)) / V) (hr : val R = val ((os.drop i).take (n + 1)) % V) (hV : 0 < V)
    (hinv : val os + 18446744073709551616 ^ (i + 1) * (val (qs.drop (i + 1)) * V) = A) :
    val ((splice os i R).drop i) < V ∧ val (splice os i R) + 18446744073709551616 ^ i * (val ((qs.set i D).drop i) * V) = A := by
 have e1 : (splice os i R).drop i = R ++ os.drop (i + n + 1) := by
  unfold splice
  rw [List.drop_append, List.drop_of_length_le (by rw [List.length_take]; omega), List.length_take, Nat.min_eq_left (by omega), Nat.sub_self, List.drop_zero, List.nil_append, hR, show i + (n + 1) = i + n + 1 by omega]
 have e2 : (splice os i R).take i = os.take i := by
  unfold splice
  rw [List.take_append, List.take_of_length_le (by rw [List.length_take]; omega), List.length_take, Nat.min_eq_left (by omega), Nat.sub_self, List.take_zero, List.append_nil]
 have e3 : val ((splice os i R).drop i) = val R := by rw [e1, val_app, z, Nat.mul_zero, Nat.add_zero]
 have hsl : i ≤ (splice os i R).length := by rw [length_splice _ _ _ (by omega)]; omega
 refine ⟨by rw [e3, hr]; exact Nat.mod_lt _ hV, ?_⟩
 rw [val_take_drop (splice os i R) i hsl, e2, e3, hr]
 rw [val_take_drop os i (by omega), h1] at hinv
 rw [drop_at (l := qs.set i D) (by rw [List.length_set]; exact hq), val, List.drop_set_of_lt (by omega)]
 have e4 : (qs.set i (D : Int)).getD i 0 = D := by rw [List.getD_eq_getElem?_getD, List.getElem?_set_self hq]; rfl
 rw [e4, Int.toNat_natCast]
 generalize val ((os.drop i).take (n + 1)) = U at *
 have h5 := Nat.div_add_mod U V
 rw [← hD] at h5
 rw [Nat.pow_succ] at hinv
 generalize 18446744073709551616 ^ i = P at *
 generalize val (qs.drop (i + 1)) = Q at *
 generalize val (os.take i) = T at *
 rw [← hinv, Nat.add_mul, Nat.mul_add, Nat.add_assoc, ← Nat.add_assoc (P * (U % V)), ← Nat.mul_add]
 rw [show U % V + D * V = U by rw [Nat.mul_comm D]; omega, Nat.mul_assoc, Nat.mul_assoc, Nat.add_assoc]
theorem div_end {a m A os qs s : Nat} (hA : A = a * 2 ^ s) (hlt : os < m * 2 ^ s) (h : os + qs * (m * 2 ^ s) = A) : qs = a / m ∧ os / 2 ^ s = a % m := by
 have p : 0 < 2 ^ s := Nat.pow_pos (by decide)
 have h1 : A / (m * 2 ^ s) = qs := by
  rw [← h, Nat.add_mul_div_right _ _ (by omega), Nat.div_eq_of_lt hlt, Nat.zero_add]
 have h2 : A % (m * 2 ^ s) = os := by
  rw [← h, Nat.add_mul_mod_self_right, Nat.mod_eq_of_lt hlt]
 rw [hA, Nat.mul_div_mul_right _ _ p] at h1
 rw [hA, Nat.mul_mod_mul_right] at h2
 exact ⟨h1.symm, by rw [← h2, Nat.mul_div_cancel _ p]⟩
theorem quot_Div_one (A B : Option Addr) (c d : Nat) (l m : List Int) (w : World) (h : RdI w .u64 A l) (hn : l.length ≤ c) (h' : RdI w .u64 B m) (hn' : m.length ≤ d) (hu : U64 l) (hu' : U64 m)
    (hm : natMay l = true) (hm' : natMay m = true) (h1 : m.length = 1) :
    Calls Tryz.prog 233 #[.slice A l.length c, .slice B m.length d] w fun e w' => ∃ v u, e = .returned (.tuple #[v, u, .int .i64 0]) ∧ OwnI w' w.heap.size 112 .u64 v (limbs (val l / val m)) ∧
     OwnI w' w.heap.size 112 .u64 u (limbs (val l % val m)) ∧ Below w.heap.size w w' := by
 have hl8 := natMay_len hm
 have C1 := aa (nat_May A c l w h hn (by omega))
 have C2 := aa (nat_May B d m w h' hn' (by omega))
 rw [hm] at C1
 rw [hm'] at C2
 obtain ⟨bd, y, rfl, _, hy, hcy⟩ := h'.get (i := 0) (by omega)
 have hcy0 : w.cell? bd = some (.int .u64 y) := by simpa [Addr.add] using hcy
 have hy0 := hu'.at_ 0
 rw [hy.out] at hy0
 have htr := natMay_trim hm'
 have hyn : y ≠ 0 := by
  rcases htr with h2 | h2
  ·rw [h2] at h1; cases h1
  ·rw [h1] at h2; rw [← hy.out]; exact h2
 have hvm : val m = y.toNat := by rw [val_top (m := 0) h1, hy.out]; simp [val]
 have CS := aa (quot_Small A c l y y.toNat (by omega) w h hn hu hm (by omega) (by omega))
 rw [← hvm] at CS
 have HV := aa hvm
 have HYN : Hd (0 < y.toNat) := ⟨by omega⟩
 have HM := aa (af hm hm')
 have e1 : ((m.length : Int) == 0) = false := by rw [beq_eq_false_iff_ne]; omega
 have e2 : ((m.length : Int) == 1) = true := by rw [beq_iff_eq]; omega
 have e3 : (0 : Int) < m.length := by omega
 have H1 := aa h1
 clear hm hm' hvm htr h h' hy hyn h1
 go_enter Tryz.func233, Tryz.ntmps233
 go_wp2_with fail
 refine C1.out.mono ?_
 rintro e w' ⟨rfl, rfl⟩
 go_wp2_with fail
 refine C2.out.mono ?_
 rintro e w' ⟨rfl, rfl⟩
 clear C1 C2
 go_wp2_with fail
 refine CS.out.mono ?_
 rintro e w2 ⟨v, rfl, ho, hb⟩
 have HO := aa ho
 have HB := aa hb
 have hlt : Hd (val l % val m < 18446744073709551616) := ⟨Nat.lt_trans (Nat.mod_lt _ (by rw [HV.out]; exact HYN.out)) (by rw [HV.out]; omega)⟩
 have CO := aa (nat_Of (val l % val m : Nat) w2 (by omega) (by have := hlt.out; omega))
 clear ho hb
 go_wp2_with fail
 refine CO.out.mono ?_
 rintro e w3 ⟨u, rfl, ho, hb⟩
 have HO3 := aa ho
 have HB3 := aa hb
 clear ho hb
 go_wp2_with fail
 go_ret3
 refine ⟨_, _, rfl, HO.out.below HB3.out, ?_, HB.out.trans (HB3.out.mono HB.out.size)⟩
 have := HO3.out.low HB.out.size
 rwa [Int.toNat_natCast] at this
theorem quot_Div_lt (A B : Option Addr) (c d : Nat) (l m : List Int) (w : World) (h : RdI w .u64 A l) (hn : l.length ≤ c) (h' : RdI w .u64 B m) (hn' : m.length ≤ d) (hu : U64 l) (hu' : U64 m)
    (hm : natMay l = true) (hm' : natMay m = true) (h1 : 2 ≤ m.length) (hlt : val l < val m) :
    Calls Tryz.prog 233 #[.slice A l.length c, .slice B m.length d] w fun e w' => ∃ v u, e = .returned (.tuple #[v, u, .int .i64 0]) ∧ OwnI w' w.heap.size 112 .u64 v (limbs (val l / val m)) ∧
     OwnI w' w.heap.size 112 .u64 u (limbs (val l % val m)) ∧ Below w.heap.size w w' := by
 have hl8 := natMay_len hm
 have hm8 := natMay_len hm'
 have C1 := aa (nat_May A c l w h hn (by omega))
 have C2 := aa (nat_May B d m w h' hn' (by omega))
 rw [hm] at C1
 rw [hm'] at C2
 have C3 := aa (limb_Cmp A B c d l m w h hn (by omega) h' hn' (by omega) hu hu')
 rw [cmpN_lt hlt] at C3
 have e1 : ((m.length : Int) == 0) = false := by rw [beq_eq_false_iff_ne]; omega
 have e2 : ((m.length : Int) == 1) = false := by rw [beq_eq_false_iff_ne]; omega
 have HL := aa (af (af hm hlt) h)
 have HU := aa hu
 clear hm hm' hlt h h' hu hu'
 go_enter Tryz.func233, Tryz.ntmps233
 go_wp2_with fail
 refine C1.out.mono ?_
 rintro e w' ⟨rfl, rfl⟩
 go_wp2_with fail
 refine C2.out.mono ?_
 rintro e w' ⟨rfl, rfl⟩
 clear C1 C2
 go_wp2_with fail
 refine C3.out.mono ?_
 rintro e w' ⟨rfl, ⟨nq, rfl⟩⟩
 have CT := aa (limb_Trim A c l (w.drewN nq) HL.out.2 hn (by omega))
 go_wp2_with fail
 refine CT.out.mono ?_
 rintro e w2 ⟨v, rfl, ho, hb⟩
 have HO := aa ho
 have HB := aa hb
 clear ho hb
 go_wp2_with fail
 go_ret3
 refine ⟨_, _, rfl, ?_, ?_, ?_⟩
 ·rw [Nat.div_eq_of_lt HL.out.1.2, limbs_zero]; exact OwnI.nil _ _ _ _
 ·rw [Nat.mod_eq_of_lt HL.out.1.2, ← trim_limbs HU.out]; exact HO.out
 ·exact (Dr.below ⟨nq, rfl⟩).trans HB.out
theorem quot_digit_k (g off c' d k : Nat) (B : Option Addr) (cur : List Value) (U V : List Int) (w : World) (hk : U.length = k) (hb : Bk w g 112 cur.toArray) (hU : (cur.drop off).take U.length = ints .u64 U) (hc' : U.length ≤ c')
    (hV : RdI w .u64 B V) (hd : V.length ≤ d) (uU : U64 U) (uV : U64 V) (hu9 : U.length ≤ 90000000) (hv1 : 0 < V.length) (hUV : U.length = V.length + 1) (hlt : val U < 18446744073709551616 * val V) :
    Calls Tryz.prog 279 #[.slice (some ⟨g, off, none⟩) k c', .slice B V.length d] w fun e w' =>
     e = .returned (.int .u64 (val U / val V : Nat)) ∧ w.grownBy w' (some g) ∧ ∃ R, Bk w' g 112 (splice cur off (ints .u64 R)).toArray ∧ R.length = U.length ∧ U64 R ∧ val R = val U % val V := by
 subst hk
 exact quot_digit g off c' d B cur U V w hb hU hc' hV hd uU uV hu9 hv1 hUV hlt
theorem win_ints {cur : List Value} {os : List Int} {i n : Nat} (h : cur.take os.length = ints .u64 os) (hi : i + n ≤ os.length) : (cur.drop i).take n = ints .u64 ((os.drop i).take n) := by
 have : ints .u64 ((os.drop i).take n) = ((ints .u64 os).drop i).take n := by simp [ints, List.map_take, List.map_drop]
 rw [this, ← h, List.drop_take, List.take_take, Nat.min_eq_left (by omega)]
theorem div_start {a s m : Nat} (a2 b2 : List Int) (ha : a2 = limbs (a * 2 ^ s)) (hb : b2 = limbs (m * 2 ^ s)) (hm : 0 < m) (hle : m ≤ a) :
    0 < b2.length ∧ b2.length ≤ a2.length ∧ val (a2 ++ [0, 0]) = a * 2 ^ s ∧ val b2 = m * 2 ^ s ∧ val ((a2 ++ [0, 0]).drop (a2.length + 2 - b2.length)) < val b2 := by
 have p : 0 < 2 ^ s := Nat.pow_pos (by decide)
 have hva : val a2 = a * 2 ^ s := by rw [ha, val_limbs]
 have hvb : val b2 = m * 2 ^ s := by rw [hb, val_limbs]
 have hmp : 0 < m * 2 ^ s := Nat.mul_pos hm p
 have hle2 : m * 2 ^ s ≤ a * 2 ^ s := Nat.mul_le_mul_right _ hle
 have h1 : 0 < b2.length := by
  rcases Nat.eq_zero_or_pos b2.length with h | h
  ·have := List.eq_nil_of_length_eq_zero h
   rw [this] at hvb; simp [val] at hvb; omega
  ·exact h
 have h2 : b2.length ≤ a2.length := by
  rw [hb, limbs_len]
  have := val_lt (l := a2) (by rw [ha]; exact limbs_u64 _)
  omega
 have h3 : val (a2 ++ [0, 0]) = a * 2 ^ s := by rw [val_app]; simp [val]; exact hva
 refine ⟨h1, h2, h3, hvb, ?_⟩
 have h4 : 18446744073709551616 ^ (b2.length - 1) ≤ val b2 := by
  rcases Nat.lt_or_ge (val b2) (18446744073709551616 ^ (b2.length - 1)) with h | h
  ·have h5 : (limbs (val b2)).length ≤ b2.length - 1 := limbs_len.2 h
   rw [hvb, ← hb] at h5
   omega
  ·exact h
 rcases Nat.lt_or_ge (val ((a2 ++ [0, 0]).drop (a2.length + 2 - b2.length))) (val b2) with h | h
 ·exact h
 ·exfalso
  have h5 := val_take_drop (a2 ++ [0, 0]) (a2.length + 2 - b2.length) (by simp)
  have h6 := val_lt (l := a2) (by rw [ha]; exact limbs_u64 _)
  have h7 : 18446744073709551616 ^ (a2.length + 2 - b2.length) * 18446744073709551616 ^ (b2.length - 1) ≤ 18446744073709551616 ^ (a2.length + 2 - b2.length) * val ((a2 ++ [0, 0]).drop (a2.length + 2 - b2.length)) := Nat.mul_le_mul_left _ (by omega)
  rw [← Nat.pow_add, show a2.length + 2 - b2.length + (b2.length - 1) = a2.length + 1 by omega, Nat.pow_succ] at h7
  have h8 : 0 < 18446744073709551616 ^ a2.length := Nat.pow_pos (by decide)
  omega
theorem quot_Div_main (A B : Option Addr) (c d : Nat) (l m : List Int) (w : World) (h : RdI w .u64 A l) (hn : l.length ≤ c) (h' : RdI w .u64 B m) (hn' : m.length ≤ d) (hu : U64 l) (hu' : U64 m)
    (hm : natMay l = true) (hm' : natMay m = true) (h1 : 2 ≤ m.length) (hle : val m ≤ val l) :
    Calls Tryz.prog 233 #[.slice A l.length c, .slice B m.length d] w fun e w' => ∃ v u, e = .returned (.tuple #[v, u, .int .i64 0]) ∧ OwnI w' w.heap.size 112 .u64 v (limbs (val l / val m)) ∧
     OwnI w' w.heap.size 112 .u64 u (limbs (val l % val m)) ∧ Below w.heap.size w w' := by
 obtain ⟨i0, hi, hz0, hz1, hz2⟩ := info_split Tryz.infU64
 have hl8 := natMay_len hm
 have hm8 := natMay_len hm'
 have C1 := aa (nat_May A c l w h hn (by omega))
 have C2 := aa (nat_May B d m w h' hn' (by omega))
 rw [hm] at C1
 rw [hm'] at C2
 have C3 := aa (limb_Cmp A B c d l m w h hn (by omega) h' hn' (by omega) hu hu')
 obtain ⟨cm, hcm, hcm0⟩ : ∃ cm, cmpN (val l) (val m) = cm ∧ 0 ≤ cm := ⟨_, rfl, by unfold cmpN; split; omega; split <;> omega⟩
 rw [hcm] at C3
 have e0 : decide (cm < 0) = false := decide_eq_false (by omega)
 have e1 : ((m.length : Int) == 0) = false := by rw [beq_eq_false_iff_ne]; omega
 have e2 : ((m.length : Int) == 1) = false := by rw [beq_eq_false_iff_ne]; omega
 obtain ⟨bd, y, rfl, hbl, hy, hcy⟩ := h'.get (i := m.length - 1) (by omega)
 obtain ⟨N1, hN1⟩ : ∃ N1, m.length - 1 = N1 := ⟨_, rfl⟩
 rw [hN1] at hy hcy
 have n1 : IntKind.i64.wrap ((m.length : Int) - 1) = N1 := by rw [IntKind.wrap_i64]; omega
 have n1' : (m.length : Int) - 1 = N1 := by omega
 have n4 : (N1 : Int) < m.length := by omega
 have hy0 := hu'.at_ N1
 rw [hy.out] at hy0
 have hyn : y ≠ 0 := by
  rcases natMay_trim hm' with h2 | h2
  ·rw [h2] at h1; simp at h1
  ·rw [hN1] at h2; rw [← hy.out]; exact h2
 have hy1 : 0 < y := by omega
 have hmp : Hd (0 < val m) := ⟨by
  rw [val_top (l := m) (m := N1) (by omega), hy.out]
  have := Nat.pow_pos (n := N1) (show 0 < 18446744073709551616 by decide)
  have : 0 < 18446744073709551616 ^ N1 * y.toNat := Nat.mul_pos this (by omega)
  omega⟩
 have HL := aa h
 have HM := aa h'
 have HU := aa hu
 have HU' := aa hu'
 have HLE := aa hle
 clear hm hm' h h' hu hu' hcm hN1 hyn hle
 go_enter Tryz.func233, Tryz.ntmps233
 go_wp2_with fail
 refine C1.out.mono ?_
 rintro e w' ⟨rfl, rfl⟩
 go_wp2_with fail
 refine C2.out.mono ?_
 rintro e w' ⟨rfl, rfl⟩
 clear C1 C2
 go_wp2_with fail
 refine C3.out.mono ?_
 rintro e w' ⟨rfl, ⟨nq, rfl⟩⟩
 clear C3
 go_wp2_with fail
 refine (lead0 y (w.drewN nq) hy1 hy0.2).mono ?_
 rintro e w' ⟨⟨s, hs, hs1, hs2, rfl⟩, rfl⟩
 clear hs1 hs2
 have CS := aa (limb_Shift_up A c s s rfl l (w.drewN nq) HL.out hn (by omega) HU.out hs)
 go_wp2_with fail
 refine CS.out.mono ?_
 rintro e w2 ⟨va, rfl, ho, hb⟩
 clear CS
 have ha9 : (limbs (val l * 2 ^ s)).length ≤ 9 := by
  rw [limbs_len]
  have h3 := val_lt HU.out
  have h4 : 18446744073709551616 ^ l.length ≤ 18446744073709551616 ^ 8 := Nat.pow_le_pow_right (by decide) hl8
  have h5 : 2 ^ s ≤ 2 ^ 63 := Nat.pow_le_pow_right (by decide) hs
  have h6 : val l * 2 ^ s ≤ val l * 2 ^ 63 := Nat.mul_le_mul_left _ h5
  omega
 have hb9 : (limbs (val m * 2 ^ s)).length ≤ 9 := by
  rw [limbs_len]
  have h3 := val_lt HU'.out
  have h4 : 18446744073709551616 ^ m.length ≤ 18446744073709551616 ^ 8 := Nat.pow_le_pow_right (by decide) hm8
  have h5 : 2 ^ s ≤ 2 ^ 63 := Nat.pow_le_pow_right (by decide) hs
  have h6 : val m * 2 ^ s ≤ val m * 2 ^ 63 := Nat.mul_le_mul_left _ h5
  omega
 obtain ⟨a2, ha2⟩ : ∃ a2, a2 = limbs (val l * 2 ^ s) := ⟨_, rfl⟩
 obtain ⟨b2, hb2⟩ : ∃ b2, b2 = limbs (val m * 2 ^ s) := ⟨_, rfl⟩
 have CB := fun W (hW : RdI W .u64 (some bd) m) => limb_Shift_up (some bd) d s s rfl m W hW hn' (by omega) HU'.out hs
 have DS := div_start a2 b2 ha2 hb2 hmp.out HLE.out
 have ua : Hd (U64 a2) := ⟨by rw [ha2]; exact limbs_u64 _⟩
 have ub : Hd (U64 b2) := ⟨by rw [hb2]; exact limbs_u64 _⟩
 rw [← ha2] at ho ha9
 rw [← hb2] at CB hb9
 obtain ⟨d1, d2, d3, d4, d5⟩ := DS
 have D3 := aa (af d3 (af d4 d5))
 have HO := aa ho
 have B2 : Hd (Below w.heap.size w w2) := ⟨(Dr.below ⟨nq, rfl⟩).trans hb⟩
 have hs2 := B2.out.size
 have CB2 := aa CB
 clear ho hb ha2 hb2 CB d3 d4 d5
 go_wp2_with (at_builtin; refine wpList_append_rd _ rfl _ _ 61 rfl w.heap.size 112 i0 (.int .u64 0) 1 8 Tryz.slU64 hi hz0 hz1 hz2 rfl (by decide) _ _ _ rfl (HO.out.al _) _ _ _ _ (ints .u64 [0, 0]) rfl (Rd.new_ w2 #[.int .u64 0, .int .u64 0] 112 2 1 rfl) (ints_one _ _) ?c1 ?c2 ?c3 ?_)
 case c1 => unfold maxLen; omega
 case c2 => omega
 case c3 => simp; omega
 intro v' w3 ho hg _
 have ho3 : OwnI w3 w.heap.size 112 .u64 v' (a2 ++ [0, 0]) := by unfold OwnI; rw [ints_app, List.length_append]; exact ho
 have B3 : Hd (Below w.heap.size w w3) := ⟨grown_below (HO.out.al _) hg (B2.out.alloc hs2 _) (by simp; omega)⟩
 obtain ⟨g, c3, rfl, hg1, hc3, hc3m, hW3⟩ := Wn.of_own ho3 (by simp)
 have HW3 := aa hW3
 clear ho hg ho3 hW3
 have CB3 := aa (CB2.out w3 (HM.out.up B3.out))
 have al : (a2 ++ [0, 0]).length = a2.length + 2 := by simp
 have hbs3 := B3.out.size
 rw [al] at hc3
 go_wp2_with fail
 refine CB3.out.mono ?_
 rintro e w4 ⟨vb, rfl, ho, hb⟩
 obtain ⟨gv, c4, rfl, hgv, hc4, hc4m, hW4⟩ := Wn.of_own ho d1
 have HW4 := aa hW4
 have B4 : Hd (Below w.heap.size w w4) := ⟨B3.out.trans (hb.mono hbs3)⟩
 have HW34 := aa (HW3.out.up hb)
 have hl3 := HW3.out.lt
 have hl4 := hW4.lt
 have hbs4 := B4.out.size
 clear ho hb hW4 CB3 CB2
 have hmk := fun W => mkU64 (a2.length + 2 - b2.length) ((a2.length : Int) + 2 - b2.length) (by omega) (by omega) W
 go_wp2_with fail
 clear hmk
 obtain ⟨K0, hK0⟩ : ∃ K0, a2.length + 2 - b2.length = K0 := ⟨_, rfl⟩
 have hK1 : K0 + b2.length = a2.length + 2 := by omega
 have D4 := aa (af D3.out.1 (af D3.out.2.1 D3.out.2.2))
 rw [hK0] at D4 ⊢
 have HQ0 := aa (Wn.new_ w4 K0)
 have B5 : Hd (Below w.heap.size w (w4.alloc (Obj.cells (zer K0) 112))) := ⟨B4.out.alloc hbs4 _⟩
 have HG5 := aa (HW34.out.al (Obj.cells (zer K0) 112))
 have HV5 := aa (HW4.out.al (Obj.cells (zer K0) 112))
 clear HW34 HW4 hK0
 have HI : Hd (val (a2 ++ [0, 0]) + 18446744073709551616 ^ K0 * (val ((List.replicate K0 0).drop K0) * val b2) = val l * 2 ^ s ∧ val ((a2 ++ [0, 0]).drop K0) < val b2) := ⟨by rw [List.drop_eq_nil_of_le (by simp)]; simp [val]; simpa using D4.out.1, D4.out.2.2⟩
 go_loopw [14] (fun v14 wr => ∃ (os qs : List Int) (k : Nat), v14 = .int .i64 ((k : Int) - 1) ∧ k ≤ K0 ∧ Hd (os.length = a2.length + 2) ∧ Hd (qs.length = K0) ∧ Hd (U64 os) ∧ Hd (U64 qs) ∧ Hd (Wn wr g c3 os) ∧ Hd (Wn wr gv c4 b2) ∧
  Hd (Wn wr w4.heap.size K0 qs) ∧ Hd (Below w.heap.size w wr) ∧ Hd (val (os.drop k) < val b2) ∧ Hd (val os + 18446744073709551616 ^ k * (val (qs.drop k) * val b2) = val l * 2 ^ s)) (fun v _ => (intOf v + 1).toNat)
 case atStart => exact ⟨a2 ++ [0, 0], List.replicate K0 0, K0, rfl, ae _, ⟨al⟩, ⟨by simp⟩, ⟨ua.out.app (U64.nil.cons (by omega) (by omega) |>.cons (by omega) (by omega))⟩, ⟨zeros_u64 _⟩, HG5, HV5, HQ0, B5, ⟨HI.out.2⟩, ⟨HI.out.1⟩⟩
 case round =>
  clear HG5 HV5 HQ0 B5 HI
  obtain ⟨os, qs, k, rfl, hk, hol, hql, hou, hqu, hG, hV, hQ, hbel, hdr, hinv⟩ := hrel
  cases k with
  | zero =>
    have CT := aa (limb_Trim (some ⟨w4.heap.size, 0, none⟩) K0 qs wr hQ.out.rd (by rw [hql.out]; exact ae _) (by rw [hql.out]; omega))
    rw [hql.out] at CT
    have hend := aa (div_end (a := val l) (m := val m) (A := val l * 2 ^ s) (os := val os) (qs := val qs) (s := s) rfl (by have := hdr.out; rw [D3.out.2.1, List.drop_zero] at this; exact this) (by have := hinv.out; rw [D3.out.2.1, List.drop_zero, Nat.pow_zero, Nat.one_mul] at this; exact this))
    go_wp2_with fail
    refine CT.out.mono ?_
    rintro e w6 ⟨vq, rfl, ho, hb⟩
    have HO6 := aa ho
    have HB6 := aa hb
    have hG6 := aa (hG.out.up hb)
    have hbw := hbel.out.size
    clear ho hb CT
    rcases Nat.eq_zero_or_pos s with hs0 | hs0
    ·subst hs0
     have CU := aa (limb_Shift_up (some ⟨g, 0, none⟩) c3 0 0 rfl os w6 hG6.out.rd (by rw [hol.out]; exact hc3) (by rw [hol.out]; omega) hou.out (by omega))
     rw [hol.out] at CU
     go_wp2_with fail
     refine CU.out.mono ?_
     rintro e w7 ⟨vr, rfl, ho, hb⟩
     have HO7 := aa ho
     have HB7 := aa hb
     clear ho hb
     go_wp2_with fail
     go_ret3
     refine ⟨_, _, rfl, ?_, ?_, (hbel.out.trans (HB6.out.mono hbw)).trans (HB7.out.mono (ah hbw HB6.out.size))⟩
     ·rw [← hend.out.1, ← trim_limbs hqu.out]
      exact (HO6.out.below HB7.out).low hbw
     ·have h5 := HO7.out
      have h6 := hend.out.2
      rw [Nat.pow_zero, Nat.div_one] at h6
      rw [Nat.pow_zero, Nat.mul_one, h6] at h5
      exact h5.low (ah hbw HB6.out.size)
    ·have CU := aa (limb_Shift_down (some ⟨g, 0, none⟩) c3 s (-(s : Int)) rfl os w6 hG6.out.rd (by rw [hol.out]; exact hc3) (by rw [hol.out]; omega) hou.out hs0 hs)
     rw [hol.out] at CU
     go_wp2_with fail
     refine CU.out.mono ?_
     rintro e w7 ⟨vr, rfl, ho, hb⟩
     have HO7 := aa ho
     have HB7 := aa hb
     clear ho hb
     go_wp2_with fail
     go_ret3
     refine ⟨_, _, rfl, ?_, ?_, (hbel.out.trans (HB6.out.mono hbw)).trans (HB7.out.mono (ah hbw HB6.out.size))⟩
     ·rw [← hend.out.1, ← trim_limbs hqu.out]
      exact (HO6.out.below HB7.out).low hbw
     ·have h5 := HO7.out
      rw [hend.out.2] at h5
      exact h5.low (ah hbw HB6.out.size)
  | succ i =>
    have e9 : ((i + 1 : Nat) : Int) - 1 = i := by omega
    simp only [e9]
    have hmn : min ((i : Int) + b2.length + 1) ((a2.length : Int) + 2) = i + b2.length + 1 := by omega
    have W := div_win (os := os) (n := b2.length) (i := i) hou.out (by rw [hol.out]; omega) (val_lt ub.out) hdr.out
    have HWN := aa W
    clear W
    obtain ⟨cur, hk1, hk2, hk3, hk4⟩ := hG.out
    have hUl : ((os.drop i).take (b2.length + 1)).length = b2.length + 1 := by rw [List.length_take, List.length_drop, hol.out]; omega
    have hol2 := hol.out
    have CD := aa (quot_digit_k g i (c3 - i) c4 (i + b2.length + 1 - i) (some ⟨gv, 0, none⟩) cur ((os.drop i).take (b2.length + 1)) b2 wr (by rw [hUl]; omega) hk1 (by rw [hUl]; exact win_ints hk4 (by omega)) (by rw [hUl]; omega)
     hV.out.rd hc4 ((hou.out.drop i).take _) ub.out (by rw [hUl]; omega) d1 hUl HWN.out.2.2)
    have HK := aa (af hk1 (af hk2 (af hk3 hk4)))
    have HUL := aa hUl
    clear hk1 hk2 hk3 hk4 hUl hol2
    go_wp2_with fail
    refine CD.out.mono ?_
    rintro e w6 ⟨rfl, hg6, R, hR1, hR2, hR3, hR4⟩
    rw [HUL.out] at hR2
    obtain ⟨D, hD⟩ : ∃ D, val ((os.drop i).take (b2.length + 1)) / val b2 = D := ⟨_, rfl⟩
    have DD := aa (div_done (n := b2.length) (i := i) (V := val b2) (A := val l * 2 ^ s) (by rw [hol.out]; omega) (by rw [hql.out]; omega) hR2 HWN.out.1 HWN.out.2.1 hD.symm hR4 (by have := hdr.out; omega) hinv.out)
    have hDl : Hd (D < 18446744073709551616) := ⟨by rw [← hD]; exact Nat.div_lt_of_lt_mul (by rw [Nat.mul_comm]; exact HWN.out.2.2)⟩
    rw [hD]
    have HG6 := aa (Wn.splice (l := os) (i := i) HK.out.2.1 HK.out.2.2.1 HK.out.2.2.2 (by rw [hR2, hol.out]; omega) hR1)
    have ne1 : w4.heap.size ≠ g := by omega
    have ne2 : gv ≠ g := by omega
    have ne3 : gv ≠ w4.heap.size := by omega
    have HQ6 := aa (hQ.out.grown hg6 (fun e => ne1 (by injection e)))
    have HV6 := aa (hV.out.grown hg6 (fun e => ne2 (by injection e)))
    have HB6 : Hd (Below w.heap.size w w6) := ⟨hbel.out.grown hg6 hbel.out.size (by intro k hk; injection hk with hk; omega)⟩
    have HR3 := aa hR3
    have HR2 := aa hR2
    obtain ⟨lq, fq⟩ := HQ6.out.cell (i := i) (by rw [hql.out]; omega)
    clear hg6 hR1 hR2 hR3 hR4 hD
    go_wp2_with fail
    go_roundw
    case measure => first | (simp [intOf]; done) | (simp [intOf]; omega)
    case rel =>
     exact ⟨splice os i R, qs.set i D, i, rfl, by omega, ⟨by rw [length_splice _ _ _ (by rw [HR2.out, hol.out]; omega)]; exact hol.out⟩, ⟨by rw [List.length_set]; exact hql.out⟩, ⟨hou.out.splice HR3.out i⟩, ⟨hqu.out.set i (by omega) (by have := hDl.out; omega)⟩,
      ⟨HG6.out.far ne1.symm _⟩, ⟨HV6.out.far ne3 _⟩, ⟨HQ6.out.set (by rw [hql.out]; omega) _⟩, ⟨HB6.out.setCell hbs4 _⟩, ⟨DD.out.1⟩, ⟨DD.out.2⟩⟩
theorem quot_Div (A B : Option Addr) (c d : Nat) (l m : List Int) (w : World) (h : RdI w .u64 A l) (hn : l.length ≤ c) (h' : RdI w .u64 B m) (hn' : m.length ≤ d) (hu : U64 l) (hu' : U64 m)
    (hm : natMay l = true) (hm' : natMay m = true) (h1 : 0 < m.length) :
    Calls Tryz.prog 233 #[.slice A l.length c, .slice B m.length d] w fun e w' => ∃ v u, e = .returned (.tuple #[v, u, .int .i64 0]) ∧ OwnI w' w.heap.size 112 .u64 v (limbs (val l / val m)) ∧
     OwnI w' w.heap.size 112 .u64 u (limbs (val l % val m)) ∧ Below w.heap.size w w' := by
 rcases Nat.lt_or_ge m.length 2 with h2 | h2
 ·exact quot_Div_one A B c d l m w h hn h' hn' hu hu' hm hm' (by omega)
 ·rcases Nat.lt_or_ge (val l) (val m) with h3 | h3
  ·exact quot_Div_lt A B c d l m w h hn h' hn' hu hu' hm hm' h2 h3
  ·exact quot_Div_main A B c d l m w h hn h' hn' hu hu' hm hm' h2 h3
theorem natMay_trimL {l : List Int} (h : natMay l = true) : trimL l = l := trimL_trim (natMay_trim h)
theorem natMay_pos {l : List Int} (h : natMay l = true) (hu : U64 l) (hl : 0 < l.length) : 0 < val l := by
 rcases Nat.eq_zero_or_pos (val l) with h0 | h0
 ·have := natMay_limbs h hu
  rw [h0, limbs_zero] at this
  rw [← this] at hl
  cases hl
 ·exact h0
theorem quot_Gcd_bad (A B : Option Addr) (c d : Nat) (l m : List Int) (w : World) (h : RdI w .u64 A l) (hn : l.length ≤ c) (h' : RdI w .u64 B m) (hn' : m.length ≤ d) (h9 : l.length ≤ 1000000000) (h9' : m.length ≤ 1000000000)
    (hm : (natMay l && natMay m) = false) :
    Calls Tryz.prog 225 #[.slice A l.length c, .slice B m.length d] w fun e w' => e = .returned (.tuple #[.slice none 0 0, .int .i64 1]) ∧ w = w' := by
 have C1 := aa (nat_May A c l w h hn h9)
 have C2 := aa (nat_May B d m w h' hn' h9')
 clear h h'
 cases hb : natMay l
 ·rw [hb] at C1
  clear hm hb
  go_enter Tryz.func225, Tryz.ntmps225
  go_wp2_with fail
  refine C1.out.mono ?_
  rintro e w' ⟨rfl, rfl⟩
  go_wp2_with fail
  go_ret2
  exact ⟨rfl, rfl⟩
 ·rw [hb] at C1 hm
  rw [Bool.true_and] at hm
  rw [hm] at C2
  clear hm hb
  go_enter Tryz.func225, Tryz.ntmps225
  go_wp2_with fail
  refine C1.out.mono ?_
  rintro e w' ⟨rfl, rfl⟩
  go_wp2_with fail
  refine C2.out.mono ?_
  rintro e w' ⟨rfl, rfl⟩
  go_wp2_with fail
  go_ret2
  exact ⟨rfl, rfl⟩
theorem quot_Gcd (A B : Option Addr) (c d : Nat) (l m : List Int) (w : World) (h : RdI w .u64 A l) (hn : l.length ≤ c) (h' : RdI w .u64 B m) (hn' : m.length ≤ d) (hu : U64 l) (hu' : U64 m)
    (hm : natMay l = true) (hm' : natMay m = true) :
    Calls Tryz.prog 225 #[.slice A l.length c, .slice B m.length d] w fun e w' => ∃ v, e = .returned (.tuple #[v, .int .i64 0]) ∧ OwnI w' w.heap.size 112 .u64 v (limbs (Nat.gcd (val l) (val m))) ∧ Below w.heap.size w w' := by
 have hl8 := natMay_len hm
 have hm8 := natMay_len hm'
 have C1 := aa (nat_May A c l w h hn (by omega))
 have C2 := aa (nat_May B d m w h' hn' (by omega))
 rw [hm] at C1
 rw [hm'] at C2
 have C3 := aa (limb_Trim A c l w h hn (by omega))
 have C4 := aa (fun W h => limb_Trim B d m W h hn' (by omega))
 rw [natMay_trimL hm] at C3
 rw [natMay_trimL hm'] at C4
 have HM := aa h'
 have HU := aa (af hu (af hu' (af hm hm')))
 clear h h' hu hu' hm hm'
 go_enter Tryz.func225, Tryz.ntmps225
 go_wp2_with fail
 refine C1.out.mono ?_
 rintro e w' ⟨rfl, rfl⟩
 go_wp2_with fail
 refine C2.out.mono ?_
 rintro e w' ⟨rfl, rfl⟩
 go_wp2_with fail
 refine C3.out.mono ?_
 rintro e w1 ⟨v1, rfl, ho1, hb1⟩
 have HO1 := aa ho1
 have HB1 := aa hb1
 have C5 := aa (C4.out w1 (HM.out.up hb1))
 clear ho1 hb1 C1 C2 C3 C4
 go_wp2_with fail
 refine C5.out.mono ?_
 rintro e w2 ⟨v2, rfl, ho2, hb2⟩
 obtain ⟨A1, c1, rfl, hc1, _, _⟩ := HO1.out.reads
 obtain ⟨A2, c2, rfl, hc2, _, _⟩ := ho2.reads
 have HO1' := aa (HO1.out.below hb2)
 have HO2 := aa (ho2.low HB1.out.size)
 have HB2 : Hd (Below w.heap.size w w2) := ⟨HB1.out.trans (hb2.mono HB1.out.size)⟩
 clear ho2 hb2 C5
 go_wp2_with fail
 go_loopg [0, 1] (val m) (fun k v0 v1 wr => ∃ (x y : List Int) (A1 A2 : Option Addr) (c1 c2 : Nat), v0 = .slice A1 x.length c1 ∧ v1 = .slice A2 y.length c2 ∧ x.length ≤ c1 ∧ y.length ≤ c2 ∧ Hd (k = val y) ∧ Hd (OwnI wr w.heap.size 112 .u64 (.slice A1 x.length c1) x) ∧
  Hd (OwnI wr w.heap.size 112 .u64 (.slice A2 y.length c2) y) ∧ Hd (Below w.heap.size w wr) ∧ Hd (U64 x ∧ U64 y ∧ natMay x = true ∧ natMay y = true) ∧ Hd (Nat.gcd (val x) (val y) = Nat.gcd (val l) (val m)))
 case atStart => exact ⟨l, m, A1, A2, c1, c2, rfl, rfl, hc1, hc2, ⟨rfl⟩, HO1', HO2, HB2, HU, ⟨rfl⟩⟩
 case round =>
  clear HO1' HO2 HB2 HO1 HB1 HM HU hc1 hc2
  obtain ⟨x, y, A1, A2, c1, c2, rfl, rfl, hc1, hc2, hk, ho1, ho2, hb, hu, hg⟩ := hrel
  by_cases hy : 0 < y.length
  ·have hy' : (0 : Int) < y.length := by omega
   obtain ⟨_, _, hv, _, _, r1⟩ := ho1.out.reads
   injection hv with hv1 hv2 hv3
   subst hv1 hv3
   obtain ⟨_, _, hv, _, _, r2⟩ := ho2.out.reads
   injection hv with hv1 hv2 hv3
   subst hv1 hv3
   clear hv2
   have CD := aa (quot_Div A1 A2 c1 c2 x y wr r1 hc1 r2 hc2 hu.out.1 hu.out.2.1 hu.out.2.2.1 hu.out.2.2.2 hy)
   have hpos : Hd (0 < val y) := ⟨natMay_pos hu.out.2.2.2 hu.out.2.1 hy⟩
   clear r1 r2
   go_wp2_with fail
   refine CD.out.mono ?_
   rintro e w3 ⟨q, r, rfl, _, hor, hb3⟩
   obtain ⟨A3, c3, rfl, hc3, _, _⟩ := hor.reads
   have HOR := aa (hor.low hb.out.size)
   have HB3 := aa hb3
   have hlt : Hd (val x % val y < val y) := ⟨Nat.mod_lt _ hpos.out⟩
   have hz : Hd (natMay (limbs (val x % val y)) = true ∧ val (limbs (val x % val y)) = val x % val y) := ⟨limbs_may (by
    rw [limbs_len]
    have h1 := val_lt hu.out.2.1
    have h2 := natMay_len hu.out.2.2.2
    have h3 : 18446744073709551616 ^ y.length ≤ 18446744073709551616 ^ 8 := Nat.pow_le_pow_right (by decide) h2
    have := hlt.out
    omega), val_limbs _⟩
   clear hor hb3
   go_wp2_with fail
   go_roundg (val x % val y)
   case measure => rw [hk.out]; exact hlt.out
   case rel =>
    refine ⟨y, limbs (val x % val y), A2, A3, c2, c3, rfl, rfl, hc2, hc3, ⟨hz.out.2.symm⟩, ⟨ho2.out.below HB3.out⟩, HOR, ⟨hb.out.trans (HB3.out.mono hb.out.size)⟩, ⟨hu.out.2.1, limbs_u64 _, hu.out.2.2.2, hz.out.1⟩, ⟨?_⟩⟩
    rw [hz.out.2, ← hg.out, Nat.gcd_comm (val y), ← Nat.gcd_rec, Nat.gcd_comm]
  ·have hy0 : y.length = 0 := by omega
   have hyn := List.eq_nil_of_length_eq_zero hy0
   subst hyn
   clear hy hy0
   go_wp2_with fail
   go_ret2
   refine ⟨_, rfl, ?_, hb.out⟩
   have h1 := hg.out
   rw [show val [] = 0 from rfl, Nat.gcd_zero_right] at h1
   rw [← h1, natMay_limbs hu.out.2.2.1 hu.out.1]
   exact ho1.out
end Go.Proofs.YtgjkgkgieeoalaaGreat
