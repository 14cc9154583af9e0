/- Parts of the proof, joined: each theorem says what it shows. -/
import Derived.Test.YtgjkgkgieeoalaaGreatF01
import Derived.Test.YtgjkgkgieeoalaaGreatF14
import Derived.Test.YtgjkgkgieeoalaaGreatF10
import Derived.Test.YtgjkgkgieeoalaaGreatF13
set_option linter.unusedVariables false
set_option linter.unusedSimpArgs false
set_option maxHeartbeats 24000000
set_option maxRecDepth 100000
namespace Go.Proofs.YtgjkgkgieeoalaaGreat
open Go.RowKit
theorem rrat_Zero (b0 : Nat) (v : Value) (r : RatD) (w : World) (h : RRat w b0 v r) :
    Calls Tryz.prog 84 #[v] w fun e w' => e = .returned (.bool (decide (r.num.length = 0))) ∧ Below w.heap.size w w' := by
 obtain ⟨A, c, B, d, rfl, _, _, _, _⟩ := h
 by_cases h0 : r.num.length = 0
 ·have e1 : ((r.num.length : Int) == 0) = true := by rw [beq_iff_eq]; omega
  have HD : Hd (decide (r.num.length = 0) = true) := ⟨decide_eq_true h0⟩
  clear h0
  go_enter Tryz.func84, Tryz.ntmps84
  go_wp2_with fail
  go_ret
  exact ⟨retBool HD.out.symm, (ag _ _).alloc (ae _) _⟩
 ·have e1 : ((r.num.length : Int) == 0) = false := by rw [beq_eq_false_iff_ne]; omega
  have HD : Hd (decide (r.num.length = 0) = false) := ⟨decide_eq_false h0⟩
  clear h0
  go_enter Tryz.func84, Tryz.ntmps84
  go_wp2_with fail
  go_ret
  exact ⟨retBool HD.out.symm, (ag _ _).alloc (ae _) _⟩
theorem rrat_May (b0 : Nat) (v : Value) (r : RatD) (w : World) (h : RRat w b0 v r) (hs : r.short) :
    Calls Tryz.prog 83 #[v] w fun e w' => e = .returned (.bool (ratMay r)) ∧ Below w.heap.size w w' := by
 obtain ⟨A, c, B, d, rfl, h1, h2, h3, h4⟩ := h
 obtain ⟨hs1, hs2⟩ := hs
 have hb1 : Hd (Below w.heap.size w (w.alloc (Obj.cells #[.bool r.neg, .slice A r.num.length c, .slice B r.den.length d] 64))) := ⟨(ag _ _).alloc (ae _) _⟩
 have k1 := aa (Bk.new_ w 64 #[.bool r.neg, .slice A r.num.length c, .slice B r.den.length d])
 have C1 := aa (rnat_May A c r.num _ (h3.rd.up hb1.out) h1 (by omega))
 have C2 := aa (rnat_May B d r.den _ (h4.rd.up hb1.out) h2 (by omega))
 cases hm1 : natMay r.num
 ·rw [hm1] at C1
  have HM : Hd (ratMay r = false) := ⟨by unfold ratMay; rw [hm1]; rfl⟩
  clear hm1 h3 h4 C2
  go_enter Tryz.func83, Tryz.ntmps83
  go_wp2_with fail
  refine C1.out.mono ?_
  rintro e w' ⟨rfl, rfl⟩
  go_wp2_with fail
  go_ret
  exact ⟨retBool HM.out.symm, hb1.out⟩
 cases hm2 : natMay r.den
 ·rw [hm1] at C1
  rw [hm2] at C2
  have HM : Hd (ratMay r = false) := ⟨by unfold ratMay; rw [hm2, Bool.and_false]; rfl⟩
  clear hm1 hm2 h3 h4
  go_enter Tryz.func83, Tryz.ntmps83
  go_wp2_with fail
  refine C1.out.mono ?_
  rintro e w' ⟨rfl, rfl⟩
  go_wp2_with fail
  refine C2.out.mono ?_
  rintro e w' ⟨rfl, rfl⟩
  go_wp2_with fail
  go_ret
  exact ⟨retBool HM.out.symm, hb1.out⟩
 rw [hm1] at C1
 rw [hm2] at C2
 by_cases hd0 : 0 < r.den.length
 ·have e1 : ((r.den.length : Int) == 0) = false := by rw [beq_eq_false_iff_ne]; omega
  have CG := aa (rquot_Gcd A B c d r.num r.den _ (h3.rd.up hb1.out) h1 (h4.rd.up hb1.out) h2 h3.u h4.u hm1 hm2)
  have HM := aa (af hm1 hm2)
  have HU := aa (af h3.u h4.u)
  have hgl := aa (gcd_len h3.u h4.u (natMay_len hm1) (natMay_len hm2))
  have HD0 := aa hd0
  clear hm1 hm2 h3 h4 hd0
  go_enter Tryz.func83, Tryz.ntmps83
  go_wp2_with fail
  refine C1.out.mono ?_
  rintro e w' ⟨rfl, rfl⟩
  go_wp2_with fail
  refine C2.out.mono ?_
  rintro e w' ⟨rfl, rfl⟩
  go_wp2_with fail
  refine CG.out.mono ?_
  rintro e w2 ⟨A3, c3, G, rfl, hG, hc3, hr3, hb⟩
  have hb2 : Hd (Below w.heap.size w w2) := ⟨hb1.out.trans (hb.mono hb1.out.size)⟩
  have k2 := aa (k1.out.up hb)
  have l0 : w2.cell? ⟨w.heap.size, 0, none⟩ = some (.bool r.neg) := by rw [k2.out.cell]; rfl
  have l1 : w2.cell? ⟨w.heap.size, 1, none⟩ = some (.slice A r.num.length c) := by rw [k2.out.cell]; rfl
  have l2 : w2.cell? ⟨w.heap.size, 2, none⟩ = some (.slice B r.den.length d) := by rw [k2.out.cell]; rfl
  have hb3 : Hd (Below w2.heap.size w2 (w2.alloc (Obj.cells #[.int .u64 1] 112))) := ⟨(ag _ _).alloc (ae _) _⟩
  have CS := aa (rnat_Same A3 (some ⟨w2.heap.size, 0, none⟩) c3 1 G [1] _ (hr3.up hb3.out) hc3 (rd1 w2 1 _ rfl) (ae _) (by rw [hG]; have := hgl.out; omega) (by simp))
  have HG1 : Hd (decide (G = [1]) = decide (Nat.gcd (val r.num) (val r.den) = 1)) := ⟨by
   rw [hG]
   apply decide_eq_decide.2
   constructor
   ·intro e
    have := congrArg val e
    rw [val_limbs] at this
    simpa [val] using this
   ·intro e
    rw [e]
    exact limbs_of (l := [1]) (U64.nil.cons (by omega) (by omega)) (by decide)⟩
  obtain ⟨sb, hsb⟩ : ∃ sb, decide (G = [1]) = sb := ⟨_, rfl⟩
  rw [hsb] at CS HG1
  clear hb hr3 hG k1 hb1 CG C1 C2 hsb
  cases sb
  ·have HM2 : Hd (ratMay r = false) := ⟨by unfold ratMay; rw [← HG1.out]; simp⟩
   go_wp2_with fail
   refine CS.out.mono ?_
   rintro e w4 ⟨rfl, hd4⟩
   have hb4 : Hd (Below w.heap.size w w4) := ⟨hb2.out.trans ((hb3.out.trans (hd4.below.mono hb3.out.size)).mono hb2.out.size)⟩
   clear hd4
   go_wp2_with fail
   go_ret
   exact ⟨retBool HM2.out.symm, hb4.out⟩
  ·obtain ⟨nb, hnb⟩ : ∃ nb, r.neg = nb := ⟨_, rfl⟩
   have HM2 : Hd (ratMay r = (!nb || !decide (r.num.length = 0))) := ⟨by unfold ratMay; rw [← HG1.out, HM.out.1, HM.out.2, decide_eq_true HD0.out, hnb]; simp⟩
   rw [hnb] at l0
   cases nb
   ·go_wp2_with fail
    refine CS.out.mono ?_
    rintro e w4 ⟨rfl, hd4⟩
    have hb24 := aa (hb3.out.trans (hd4.below.mono hb3.out.size))
    have hb4 : Hd (Below w.heap.size w w4) := ⟨hb2.out.trans (hb24.out.mono hb2.out.size)⟩
    have m0 := cell_up l0 hb24.out
    have m1 := cell_up l1 hb24.out
    clear hd4 l0 l1 l2
    go_wp2_with fail
    go_ret
    exact ⟨retBool HM2.out.symm, hb4.out⟩
   ·by_cases hz : r.num.length = 0
    ·have z1 : ((r.num.length : Int) == 0) = true := by rw [beq_iff_eq]; omega
     rw [decide_eq_true hz] at HM2
     clear hz
     go_wp2_with fail
     refine CS.out.mono ?_
     rintro e w4 ⟨rfl, hd4⟩
     have hb24 := aa (hb3.out.trans (hd4.below.mono hb3.out.size))
     have hb4 : Hd (Below w.heap.size w w4) := ⟨hb2.out.trans (hb24.out.mono hb2.out.size)⟩
     have m0 := cell_up l0 hb24.out
     have m1 := cell_up l1 hb24.out
     clear hd4 l0 l1 l2
     go_wp2_with fail
     go_ret
     exact ⟨retBool HM2.out.symm, hb4.out⟩
    ·have z1 : ((r.num.length : Int) == 0) = false := by rw [beq_eq_false_iff_ne]; omega
     rw [decide_eq_false hz] at HM2
     clear hz
     go_wp2_with fail
     refine CS.out.mono ?_
     rintro e w4 ⟨rfl, hd4⟩
     have hb24 := aa (hb3.out.trans (hd4.below.mono hb3.out.size))
     have hb4 : Hd (Below w.heap.size w w4) := ⟨hb2.out.trans (hb24.out.mono hb2.out.size)⟩
     have m0 := cell_up l0 hb24.out
     have m1 := cell_up l1 hb24.out
     clear hd4 l0 l1 l2
     go_wp2_with fail
     go_ret
     exact ⟨retBool HM2.out.symm, hb4.out⟩
 ·have e1 : ((r.den.length : Int) == 0) = true := by rw [beq_iff_eq]; omega
  have HM : Hd (ratMay r = false) := ⟨by unfold ratMay; rw [decide_eq_false hd0]; simp⟩
  clear hm1 hm2 h3 h4 hd0
  go_enter Tryz.func83, Tryz.ntmps83
  go_wp2_with fail
  refine C1.out.mono ?_
  rintro e w' ⟨rfl, rfl⟩
  go_wp2_with fail
  refine C2.out.mono ?_
  rintro e w' ⟨rfl, rfl⟩
  go_wp2_with fail
  go_ret
  exact ⟨retBool HM.out.symm, hb1.out⟩
theorem rrat_Make_bad (neg : Bool) (A B : Option Addr) (c d : Nat) (l m : List Int) (w : World) (h : RdI w .u64 A l) (hn : l.length ≤ c) (h' : RdI w .u64 B m) (hn' : m.length ≤ d) (h9 : l.length ≤ 10000000) (h9' : m.length ≤ 10000000)
    (hm : (natMay l && natMay m) = false) :
    Calls Tryz.prog 241 #[.bool neg, .slice A l.length c, .slice B m.length d] w fun e w' => e = .returned (.tuple #[.agg #[.bool false, .slice none 0 0, .slice none 0 0], .int .i64 1]) ∧ Below w.heap.size w w' := by
 have hb1 : Hd (Below w.heap.size w (w.alloc (Obj.cells #[.bool false, .slice none 0 0, .slice none 0 0] 64))) := ⟨(ag _ _).alloc (ae _) _⟩
 have CG := aa (rquot_Gcd_bad A B c d l m _ (h.up hb1.out) hn (h'.up hb1.out) hn' (by omega) (by omega) hm)
 clear h h' hm
 go_enter Tryz.func241, Tryz.ntmps241
 go_wp2_with fail
 refine CG.out.mono ?_
 rintro e w2 ⟨rfl, rfl⟩
 go_wp2_with fail
 refine bodyPost_ret (res_rat2 rfl _ _ w.heap.size #[.bool false, .slice none 0 0, .slice none 0 0] rfl (Bk.new_ _ _ _) rfl) rfl ?_
 exact ⟨rfl, hb1.out⟩
theorem rrat_Make_zero (neg : Bool) (A B : Option Addr) (c d : Nat) (l m : List Int) (w : World) (h : RdI w .u64 A l) (hn : l.length ≤ c) (h' : RdI w .u64 B m) (hn' : m.length ≤ d) (hu : U64 l) (hu' : U64 m)
    (hm : natMay l = true) (hm' : natMay m = true) (h0 : m.length = 0) :
    Calls Tryz.prog 241 #[.bool neg, .slice A l.length c, .slice B m.length d] w fun e w' => e = .returned (.tuple #[.agg #[.bool false, .slice none 0 0, .slice none 0 0], .int .i64 30]) ∧ Below w.heap.size w w' := by
 have hb1 : Hd (Below w.heap.size w (w.alloc (Obj.cells #[.bool false, .slice none 0 0, .slice none 0 0] 64))) := ⟨(ag _ _).alloc (ae _) _⟩
 have CG := aa (rquot_Gcd A B c d l m _ (h.up hb1.out) hn (h'.up hb1.out) hn' hu hu' hm hm')
 have k1 := aa (Bk.new_ w 64 #[.bool false, .slice none 0 0, .slice none 0 0])
 have e1 : ((m.length : Int) == 0) = true := by rw [beq_iff_eq]; omega
 clear h h' hm hu hu' hm' h0
 go_enter Tryz.func241, Tryz.ntmps241
 go_wp2_with fail
 refine CG.out.mono ?_
 rintro e w2 ⟨Ag, cg, G, rfl, _, _, ho, hb⟩
 have k2 := aa (k1.out.up hb)
 have hb2 : Hd (Below w.heap.size w w2) := ⟨hb1.out.trans (hb.mono hb1.out.size)⟩
 have l0 : w2.cell? ⟨w.heap.size, 0, none⟩ = some (.bool false) := by rw [k2.out.cell]; rfl
 have l1 : w2.cell? ⟨w.heap.size, 1, none⟩ = some (.slice none 0 0) := by rw [k2.out.cell]; rfl
 have l2 : w2.cell? ⟨w.heap.size, 2, none⟩ = some (.slice none 0 0) := by rw [k2.out.cell]; rfl
 have f0 := fun i => k2.out.froz i
 clear ho hb k1 hb1 CG
 go_wp2_with fail
 refine bodyPost_ret (res_rat2 rfl _ _ w.heap.size #[.bool false, .slice none 0 0, .slice none 0 0] rfl (k2.out.set3 _ _ _) rfl) rfl ?_
 exact ⟨rfl, ((hb2.out.setCell (ae _) _).setCell (ae _) _).setCell (ae _) _⟩
theorem rrat_Make_ok (b0 : Nat) (neg : Bool) (A B : Option Addr) (c d : Nat) (l m : List Int) (w : World) (hb0 : b0 ≤ w.heap.size) (h : RdI w .u64 A l) (hn : l.length ≤ c) (h' : RdI w .u64 B m) (hn' : m.length ≤ d) (hu : U64 l) (hu' : U64 m)
    (hm : natMay l = true) (hm' : natMay m = true) (h0 : 0 < m.length) :
    Calls Tryz.prog 241 #[.bool neg, .slice A l.length c, .slice B m.length d] w fun e w' => ∃ v, e = .returned (.tuple #[v, .int .i64 0]) ∧
     RRat w' b0 v ⟨neg && decide (val l / Nat.gcd (val l) (val m) ≠ 0), limbs (val l / Nat.gcd (val l) (val m)), limbs (val m / Nat.gcd (val l) (val m))⟩ ∧ Below w.heap.size w w' := by
 have hb1 : Hd (Below w.heap.size w (w.alloc (Obj.cells #[.bool false, .slice none 0 0, .slice none 0 0] 64))) := ⟨(ag _ _).alloc (ae _) _⟩
 have CG := aa (rquot_Gcd A B c d l m _ (h.up hb1.out) hn (h'.up hb1.out) hn' hu hu' hm hm')
 have k1 := aa (Bk.new_ w 64 #[.bool false, .slice none 0 0, .slice none 0 0])
 have e1 : ((m.length : Int) == 0) = false := by rw [beq_eq_false_iff_ne]; omega
 have hpos := natMay_posN hm' hu' h0
 have hgp : 0 < Nat.gcd (val l) (val m) := Nat.gcd_pos_of_pos_right _ hpos
 have hgl := gcd_len hu hu' (natMay_len hm) (natMay_len hm')
 have HG : Hd (natMay (limbs (Nat.gcd (val l) (val m))) = true ∧ 0 < (limbs (Nat.gcd (val l) (val m))).length) := ⟨limbs_may hgl, by
  rcases Nat.eq_zero_or_pos (limbs (Nat.gcd (val l) (val m))).length with h | h
  ·have := limbs_nil.1 (List.eq_nil_of_length_eq_zero h); omega
  ·exact h⟩
 have HGV := aa (val_limbs (Nat.gcd (val l) (val m)))
 obtain ⟨G, hG⟩ : ∃ G, Nat.gcd (val l) (val m) = G := ⟨_, rfl⟩
 rw [hG] at CG HG HGV hgp ⊢
 have D1 := aa (fun W Ag cg (hW : Below w.heap.size w W) (hg : RdI W .u64 Ag (limbs G)) (hc : (limbs G).length ≤ cg) => rquot_Div A Ag c cg l (limbs G) W (h.up hW) hn hg hc hu (limbs_u64 _) hm HG.out.1 HG.out.2)
 have D2 := aa (fun W Ag cg (hW : Below w.heap.size w W) (hg : RdI W .u64 Ag (limbs G)) (hc : (limbs G).length ≤ cg) => rquot_Div B Ag d cg m (limbs G) W (h'.up hW) hn' hg hc hu' (limbs_u64 _) hm' HG.out.1 HG.out.2)
 rw [HGV.out] at D1 D2
 clear h h' hm hu hu' hm' h0 hpos hgl HG HGV hG
 go_enter Tryz.func241, Tryz.ntmps241
 go_wp2_with fail
 refine CG.out.mono ?_
 rintro e w2 ⟨Ag, cg, G', rfl, hG', hcg, hrg, hb⟩
 subst hG'
 have k2 := aa (k1.out.up hb)
 have hb2 : Hd (Below w.heap.size w w2) := ⟨hb1.out.trans (hb.mono hb1.out.size)⟩
 have HRG := aa hrg
 have C3 := aa (D1.out w2 Ag cg hb2.out hrg hcg)
 clear hb k1 hb1 CG D1 hrg
 go_wp2_with fail
 refine C3.out.mono ?_
 rintro e w3 ⟨q1, u1, rfl, ho, _, hb⟩
 obtain ⟨A1, c1, rfl, hc1, _, _⟩ := ho.reads
 have k3 := aa (k2.out.up hb)
 have hb3 : Hd (Below w.heap.size w w3) := ⟨hb2.out.trans (hb.mono hb2.out.size)⟩
 have C4 := aa (D2.out _ Ag cg hb3.out (HRG.out.up hb) hcg)
 have hq1 := aa (ho.low hb2.out.size)
 clear ho hb C3 D2 HRG k2
 go_wp2_with fail
 refine C4.out.mono ?_
 rintro e w4 ⟨q2, u2, rfl, ho, _, hb⟩
 obtain ⟨A2, c2, rfl, hc2, _, _⟩ := ho.reads
 have k4 := aa (k3.out.up hb)
 have hb4 : Hd (Below w.heap.size w w4) := ⟨hb3.out.trans (hb.mono hb3.out.size)⟩
 have hq14 := hq1.out.below hb
 have hq24 := ho.low hb3.out.size
 obtain ⟨rr1, _, rc1⟩ := RRow.of_own hq14 (limbs_u64 _) b0
 obtain ⟨rr2, _, rc2⟩ := RRow.of_own hq24 (limbs_u64 _) b0
 have R1 := aa rr1
 have R2 := aa rr2
 have RC := aa (af rc1 rc2)
 clear ho hb C4 hq14 hq24 hq1 rr1 rr2 k3 rc1 rc2
 have f42 : w4.frozen? ⟨w.heap.size, 2, none⟩ = false := k4.out.froz 2
 have f41 : w4.frozen? ⟨w.heap.size, 1, none⟩ = false := k4.out.froz 1
 have f40 : w4.frozen? ⟨w.heap.size, 0, none⟩ = false := k4.out.froz 0
 have l42 : w4.cell? ⟨w.heap.size, 2, none⟩ = some (.slice none 0 0) := by rw [k4.out.cell]; rfl
 have l41 : w4.cell? ⟨w.heap.size, 1, none⟩ = some (.slice none 0 0) := by rw [k4.out.cell]; rfl
 have l40 : w4.cell? ⟨w.heap.size, 0, none⟩ = some (.bool false) := by rw [k4.out.cell]; rfl
 have ne1 : Hd (∀ g, some w.heap.size = some g → b0 ≤ g ∧ ∃ t cs, Bk w4 g t cs ∧ t ≠ 112) := ⟨fun g e => by injection e with e; subst e; exact ⟨hb0, _, _, k4.out, by decide⟩⟩
 have HZ : Hd (decide ((0 : Int) < (limbs (val l / G)).length) = decide (val l / G ≠ 0)) := ⟨by
  apply decide_eq_decide.2
  have e := @limbs_nil (val l / G)
  rw [← List.length_eq_zero_iff] at e
  omega⟩
 obtain ⟨zb, hzb⟩ : ∃ zb, decide (val l / G ≠ 0) = zb := ⟨_, rfl⟩
 rw [hzb] at HZ
 have HZB := aa hzb
 clear hzb
 have HZN : Hd (decide (0 < (limbs (val l / G)).length) = zb) := ⟨by
  rw [← HZ.out]
  apply decide_eq_decide.2
  omega⟩
 have hz1 : decide ((0 : Int) < (limbs (val l / G)).length) = zb := HZ.out
 have hg5 := aa (fun u => set_grown w4 ⟨w.heap.size, 0, none⟩ u)
 clear hb0
 cases neg <;> cases zb
 all_goals (
  have hz2 := hz1
  simp only [decide_eq_true_eq, decide_eq_false_iff_not] at hz2
  clear hz1
  go_wp2_with fail
  try rw [HZN.out]
  first
  | (refine bodyPost_ret (res_rat2 rfl _ _ w.heap.size #[.bool false, .slice A1 (limbs (val l / G)).length c1, .slice A2 (limbs (val m / G)).length c2] rfl ?k1 rfl) rfl ?_
     case k1 => exact k4.out.set3 _ _ _
     rw [HZB.out]
     refine ⟨_, rfl, ⟨A1, c1, A2, c2, rfl, RC.out.1, RC.out.2, R1.out.grown (((hg5.out _).set _ _).set _ _) ne1.out, R2.out.grown (((hg5.out _).set _ _).set _ _) ne1.out⟩, ?_⟩
     exact ((hb4.out.setCell (ae _) _).setCell (ae _) _).setCell (ae _) _)
  | (refine bodyPost_ret (res_rat2 rfl _ _ w.heap.size #[.bool true, .slice A1 (limbs (val l / G)).length c1, .slice A2 (limbs (val m / G)).length c2] rfl ?k1 rfl) rfl ?_
     case k1 => exact k4.out.set3 _ _ _
     rw [HZB.out]
     refine ⟨_, rfl, ⟨A1, c1, A2, c2, rfl, RC.out.1, RC.out.2, R1.out.grown (((hg5.out _).set _ _).set _ _) ne1.out, R2.out.grown (((hg5.out _).set _ _).set _ _) ne1.out⟩, ?_⟩
     exact ((hb4.out.setCell (ae _) _).setCell (ae _) _).setCell (ae _) _))
theorem rrat_Make (b0 : Nat) (neg : Bool) (A B : Option Addr) (c d : Nat) (l m : List Int) (w : World) (hb0 : b0 ≤ w.heap.size) (h : RdI w .u64 A l) (hn : l.length ≤ c) (h' : RdI w .u64 B m) (hn' : m.length ≤ d) (hu : U64 l) (hu' : U64 m) (h9 : l.length ≤ 10000000) (h9' : m.length ≤ 10000000) :
    Calls Tryz.prog 241 #[.bool neg, .slice A l.length c, .slice B m.length d] w fun e w' => ∃ v, e = .returned (.tuple #[v, .int .i64 (makeD neg l m).1]) ∧ RRat w' b0 v (makeD neg l m).2 ∧ Below w.heap.size w w' := by
 unfold makeD
 by_cases h1 : (natMay l && natMay m) = false
 ·rw [if_pos h1]
  refine (rrat_Make_bad neg A B c d l m w h hn h' hn' h9 h9' h1).mono ?_
  rintro e w' ⟨rfl, hb⟩
  exact ⟨_, rfl, RRat.zero _ _, hb⟩
 ·rw [if_neg h1]
  have h2 : natMay l = true ∧ natMay m = true := by simpa using h1
  by_cases h3 : m.length = 0
  ·rw [if_pos h3]
   refine (rrat_Make_zero neg A B c d l m w h hn h' hn' hu hu' h2.1 h2.2 h3).mono ?_
   rintro e w' ⟨rfl, hb⟩
   exact ⟨_, rfl, RRat.zero _ _, hb⟩
  ·rw [if_neg h3]
   exact rrat_Make_ok b0 neg A B c d l m w hb0 h hn h' hn' hu hu' h2.1 h2.2 (by omega)
theorem Tryz.stSig : isStruct (Tryz.prog.underlying 286) = true := by kernel_rfl
theorem Tryz.szSig : (Tryz.prog.info? 286).map (·.size) = some 2 := by kernel_rfl
theorem res_sig {fn : Func} {p : Tmp} (h : fn.results = #[.cell p 286]) (tmps : Array Value) (w : World) (g : Nat) (cs : Array Value) (hp : tmps.getD p undef = .pointer (some ⟨g, 0, none⟩)) (hk : Bk w g 286 cs) (hc : cs.size = 2) :
    (results fn tmps).run Tryz.prog w = .ok (.agg cs) w := by
 obtain ⟨f, h1⟩ := st_of Tryz.stSig
 exact results_cell_row h tmps w g _ cs (0, 0) (.struct f) hp hk h1 rfl (by rw [hc]; exact Tryz.szSig)
theorem rrat_plus_ne (A B : Option Addr) (c d : Nat) (l m : List Int) (neg too : Bool) (w : World) (h : RdI w .u64 A l) (hn : l.length ≤ c) (h' : RdI w .u64 B m) (hn' : m.length ≤ d) (hu : U64 l) (hu' : U64 m) (h9 : l.length ≤ 100000) (h9' : m.length ≤ 100000) (hs : neg ≠ too) :
    Calls Tryz.prog 264 #[.agg #[.bool neg, .slice A l.length c], .agg #[.bool too, .slice B m.length d]] w fun e w' => ∃ v, e = .returned (.agg #[.bool (plusD neg (val l) too (val m)).1, v]) ∧
     OwnI w' w.heap.size 112 .u64 v (limbs (plusD neg (val l) too (val m)).2) ∧ Below w.heap.size w w' := by
 have e1 : (neg == too) = false := by rw [beq_eq_false_iff_ne]; exact hs
 have CS := aa (fun W (hW : Below w.heap.size w W) => ref_Sub A B c d l m W (h.up hW) hn h9 (h'.up hW) hn' h9' hu hu')
 have CT := aa (fun W (hW : Below w.heap.size w W) => ref_Sub B A d c m l W (h'.up hW) hn' h9' (h.up hW) hn h9 hu' hu)
 obtain ⟨W, hW⟩ : ∃ W, W = (((w.alloc (Obj.cells #[.bool neg, .slice A l.length c] 286)).alloc (Obj.cells #[.bool too, .slice B m.length d] 286)).alloc (Obj.cells #[.bool false, .slice none 0 0] 286)) := ⟨_, rfl⟩
 have HW := aa hW
 have hb0 : Hd (Below w.heap.size w W) := ⟨by rw [hW]; exact (((ag _ _).alloc (ae _) _).alloc (by simp) _).alloc (by simp; omega) _⟩
 have HNE := aa hs
 have k1 : Hd (Bk W w.heap.size 286 #[.bool neg, .slice A l.length c]) := ⟨by rw [hW]; exact ((Bk.new_ _ _ _).al _).al _⟩
 have k2 : Hd (Bk W (w.heap.size + 1) 286 #[.bool too, .slice B m.length d]) := ⟨by
  rw [hW]
  have := (Bk.new_ (w.alloc (Obj.cells #[.bool neg, .slice A l.length c] 286)) 286 #[.bool too, .slice B m.length d]).al (Obj.cells #[.bool false, .slice none 0 0] 286)
  simpa using this⟩
 have k3 : Hd (Bk W (w.heap.size + 1 + 1) 286 #[.bool false, .slice none 0 0]) := ⟨by
  rw [hW]
  have := Bk.new_ ((w.alloc (Obj.cells #[.bool neg, .slice A l.length c] 286)).alloc (Obj.cells #[.bool too, .slice B m.length d] 286)) 286 #[.bool false, .slice none 0 0]
  simpa using this⟩
 have C1 := aa (CS.out W hb0.out)
 obtain ⟨tb, htb⟩ : ∃ tb, decide (val m ≤ val l) = tb := ⟨_, rfl⟩
 rw [htb] at C1
 clear h h' hu hu' hs hW
 go_enter Tryz.func264, Tryz.ntmps264
 go_wp2_with fail
 rw [← HW.out]
 refine C1.out.mono ?_
 rintro e w2 ⟨v, rfl, ho, hb⟩
 obtain ⟨Av, cv, rfl, _, _, _⟩ := ho.reads
 have q1 := aa (k1.out.up hb)
 have q2 := aa (k2.out.up hb)
 have q3 := aa (k3.out.up hb)
 have hb2 : Hd (Below w.heap.size w w2) := ⟨hb0.out.trans (hb.mono hb0.out.size)⟩
 have l10 : w2.cell? ⟨w.heap.size, 0, none⟩ = some (.bool neg) := by rw [q1.out.cell]; rfl
 have l11 : w2.cell? ⟨w.heap.size, 1, none⟩ = some (.slice A l.length c) := by rw [q1.out.cell]; rfl
 have l21 : w2.cell? ⟨w.heap.size + 1, 1, none⟩ = some (.slice B m.length d) := by rw [q2.out.cell]; rfl
 have f30 : w2.frozen? ⟨w.heap.size + 1 + 1, 0, none⟩ = false := q3.out.froz 0
 have f31 : w2.frozen? ⟨w.heap.size + 1 + 1, 1, none⟩ = false := q3.out.froz 1
 have l30 : w2.cell? ⟨w.heap.size + 1 + 1, 0, none⟩ = some (.bool false) := by rw [q3.out.cell]; rfl
 have l31 : w2.cell? ⟨w.heap.size + 1 + 1, 1, none⟩ = some (.slice none 0 0) := by rw [q3.out.cell]; rfl
 have HO := aa (ho.low hb0.out.size)
 have HTB := aa htb
 clear ho hb htb
 cases tb
 ·have hlt : val l < val m := by have := of_decide_eq_false HTB.out; omega
  have HP : Hd (plusD neg (val l) too (val m) = (too, val m - val l)) := ⟨by unfold plusD; rw [if_neg HNE.out, if_pos hlt]⟩
  have C2 := aa (CT.out w2 hb2.out)
  clear hlt
  go_wp2_with fail
  refine C2.out.mono ?_
  rintro e w4 ⟨v4, rfl, ho, hb⟩
  obtain ⟨A4, c4, rfl, _, _, _⟩ := ho.reads
  have r2 := aa (q2.out.up hb)
  have r3 := aa (q3.out.up hb)
  have hb4 : Hd (Below w.heap.size w w4) := ⟨hb2.out.trans (hb.mono hb2.out.size)⟩
  have m20 : w4.cell? ⟨w.heap.size + 1, 0, none⟩ = some (.bool too) := by rw [r2.out.cell]; rfl
  have m30 : w4.cell? ⟨w.heap.size + 1 + 1, 0, none⟩ = some (.bool false) := by rw [r3.out.cell]; rfl
  have m31 : w4.cell? ⟨w.heap.size + 1 + 1, 1, none⟩ = some (.slice none 0 0) := by rw [r3.out.cell]; rfl
  have g30 : w4.frozen? ⟨w.heap.size + 1 + 1, 0, none⟩ = false := r3.out.froz 0
  have g31 : w4.frozen? ⟨w.heap.size + 1 + 1, 1, none⟩ = false := r3.out.froz 1
  have HO4 := aa (ho.low hb2.out.size)
  clear ho hb
  have o1 := aa (HO4.out.far (p := ⟨w.heap.size + 1 + 1, 0, none⟩) (own_ne HO4.out r3.out (by decide)) (.bool too))
  have r31 := aa (show Bk _ _ _ #[_, _] from r3.out.set_ 0 (.bool too))
  have o2 := aa (o1.out.far (p := ⟨w.heap.size + 1 + 1, 1, none⟩) (own_ne o1.out r31.out (by decide)) (.slice A4 (limbs (val m - val l)).length c4))
  have r32 := aa (show Bk _ _ _ #[.bool too, .slice A4 (limbs (val m - val l)).length c4] from r31.out.set_ 1 (.slice A4 (limbs (val m - val l)).length c4))
  go_wp2_with fail
  refine bodyPost_ret (res_sig rfl _ _ (w.heap.size + 1 + 1) #[.bool too, .slice A4 (limbs (val m - val l)).length c4] rfl ?k1 rfl) rfl ?_
  case k1 => exact r32.out
  rw [HP.out]
  exact ⟨_, rfl, o2.out, (hb4.out.setCell (by simp; omega) _).setCell (by simp; omega) _⟩
 ·have hle : ¬ val l < val m := by have := of_decide_eq_true HTB.out; omega
  have HP : Hd (plusD neg (val l) too (val m) = (neg, val l - val m)) := ⟨by unfold plusD; rw [if_neg HNE.out, if_neg hle]⟩
  clear hle
  have o1 := aa (HO.out.far (p := ⟨w.heap.size + 1 + 1, 0, none⟩) (own_ne HO.out q3.out (by decide)) (.bool neg))
  have r31 := aa (show Bk _ _ _ #[_, _] from q3.out.set_ 0 (.bool neg))
  have o2 := aa (o1.out.far (p := ⟨w.heap.size + 1 + 1, 1, none⟩) (own_ne o1.out r31.out (by decide)) (.slice Av (limbs (val l - val m)).length cv))
  have r32 := aa (show Bk _ _ _ #[.bool neg, .slice Av (limbs (val l - val m)).length cv] from r31.out.set_ 1 (.slice Av (limbs (val l - val m)).length cv))
  go_wp2_with fail
  refine bodyPost_ret (res_sig rfl _ _ (w.heap.size + 1 + 1) #[.bool neg, .slice Av (limbs (val l - val m)).length cv] rfl ?k2 rfl) rfl ?_
  case k2 => exact r32.out
  rw [HP.out]
  exact ⟨_, rfl, o2.out, (hb2.out.setCell (by simp; omega) _).setCell (by simp; omega) _⟩
theorem rrat_plus_eq (A B : Option Addr) (c d : Nat) (l m : List Int) (neg too : Bool) (w : World) (h : RdI w .u64 A l) (hn : l.length ≤ c) (h' : RdI w .u64 B m) (hn' : m.length ≤ d) (hu : U64 l) (hu' : U64 m) (h9 : l.length ≤ 100000) (h9' : m.length ≤ 100000) (hs : neg = too) :
    Calls Tryz.prog 264 #[.agg #[.bool neg, .slice A l.length c], .agg #[.bool too, .slice B m.length d]] w fun e w' => ∃ v, e = .returned (.agg #[.bool (plusD neg (val l) too (val m)).1, v]) ∧
     OwnI w' w.heap.size 112 .u64 v (limbs (plusD neg (val l) too (val m)).2) ∧ Below w.heap.size w w' := by
 have e1 : (neg == too) = true := by rw [beq_iff_eq]; exact hs
 have HP : Hd (plusD neg (val l) too (val m) = (neg, val l + val m)) := ⟨by unfold plusD; rw [if_pos hs]⟩
 have CA := aa (fun W (hW : Hd (Below w.heap.size w W)) => ref_Add A B c d l m W (h.up hW.out) hn h9 (h'.up hW.out) hn' h9' hu hu')
 obtain ⟨W, hW⟩ : ∃ W, W = (((w.alloc (Obj.cells #[.bool neg, .slice A l.length c] 286)).alloc (Obj.cells #[.bool too, .slice B m.length d] 286)).alloc (Obj.cells #[.bool false, .slice none 0 0] 286)) := ⟨_, rfl⟩
 have HW := aa hW
 have hb0 : Hd (Below w.heap.size w W) := ⟨by rw [hW]; exact (((ag _ _).alloc (ae _) _).alloc (by simp) _).alloc (by simp; omega) _⟩
 have k1 : Hd (Bk W w.heap.size 286 #[.bool neg, .slice A l.length c]) := ⟨by rw [hW]; exact ((Bk.new_ _ _ _).al _).al _⟩
 have k2 : Hd (Bk W (w.heap.size + 1) 286 #[.bool too, .slice B m.length d]) := ⟨by
  rw [hW]
  have := (Bk.new_ (w.alloc (Obj.cells #[.bool neg, .slice A l.length c] 286)) 286 #[.bool too, .slice B m.length d]).al (Obj.cells #[.bool false, .slice none 0 0] 286)
  simpa using this⟩
 have k3 : Hd (Bk W (w.heap.size + 1 + 1) 286 #[.bool false, .slice none 0 0]) := ⟨by
  rw [hW]
  have := Bk.new_ ((w.alloc (Obj.cells #[.bool neg, .slice A l.length c] 286)).alloc (Obj.cells #[.bool too, .slice B m.length d] 286)) 286 #[.bool false, .slice none 0 0]
  simpa using this⟩
 have l10 : W.cell? ⟨w.heap.size, 0, none⟩ = some (.bool neg) := by rw [k1.out.cell]; rfl
 have l11 : W.cell? ⟨w.heap.size, 1, none⟩ = some (.slice A l.length c) := by rw [k1.out.cell]; rfl
 have l20 : W.cell? ⟨w.heap.size + 1, 0, none⟩ = some (.bool too) := by rw [k2.out.cell]; rfl
 have l21 : W.cell? ⟨w.heap.size + 1, 1, none⟩ = some (.slice B m.length d) := by rw [k2.out.cell]; rfl
 clear h h' hu hu' hs hW
 go_enter Tryz.func264, Tryz.ntmps264
 go_upto_region 2 with (fail)
 rw [← HW.out]
 go_region_held3 (fun w' => Hd (Below w.heap.size w w') ∧ w'.cell? ⟨w.heap.size, 0, none⟩ = some (.bool neg) ∧ w'.cell? ⟨w.heap.size, 1, none⟩ = some (.slice A l.length c) ∧ w'.cell? ⟨w.heap.size + 1, 1, none⟩ = some (.slice B m.length d) ∧ Hd (∃ a b, Bk w' (w.heap.size + 1 + 1) 286 #[a, b]))
  (first
   | exact hS
   | exact ⟨hb0, l10, l11, l21, ⟨_, _, k3.out⟩⟩
   | exact ⟨⟨hb0.out.drew⟩, l10, l11, l21, ⟨_, _, k3.out⟩⟩
   | exact ⟨⟨(hS.1.out.setCell (by first | (simp; done) | (simp; omega)) _).setCell (by first | (simp; done) | (simp; omega)) _⟩, by rw [far1 rfl (by first | (simp; done) | (simp; omega)), far1 rfl (by first | (simp; done) | (simp; omega))]; exact hS.2.1, by rw [far1 rfl (by first | (simp; done) | (simp; omega)), far1 rfl (by first | (simp; done) | (simp; omega))]; exact hS.2.2.1, by rw [far1 rfl (by first | (simp; done) | (simp; omega)), far1 rfl (by first | (simp; done) | (simp; omega))]; exact hS.2.2.2.1, ⟨_, _, (show Bk _ _ _ #[_, _] from hB3.out.set_ 0 _).set_ 1 _⟩⟩)
  (first
   | (go_at_call 258; obtain ⟨hB, q0, q1, q2, q3⟩ := ‹Hd (Below w.heap.size w _) ∧ _›; with_reducible refine (CA.out _ hB).mono ?_; rintro e w' ⟨x, rfl, ho, hb⟩
      obtain ⟨Av, cv, rfl, _, _, _⟩ := ho.reads
      obtain ⟨a3, b3, hq3⟩ := q3.out
      have hB3 := aa (hq3.up hb)
      have hS := af (aa (hB.out.trans (hb.mono hB.out.size))) (af (cell_up q0 hb) (af (cell_up q1 hb) (af (cell_up q2 hb) (aa (show ∃ a b, Bk w' (w.heap.size + 1 + 1) 286 #[a, b] from ⟨a3, b3, hB3.out⟩)))))
      have f30 : w'.frozen? ⟨w.heap.size + 1 + 1, 0, none⟩ = false := hB3.out.froz 0
      have f31 : w'.frozen? ⟨w.heap.size + 1 + 1, 1, none⟩ = false := hB3.out.froz 1
      have l30 : w'.cell? ⟨w.heap.size + 1 + 1, 0, none⟩ = some a3 := by rw [hB3.out.cell]; rfl
      have l31 : w'.cell? ⟨w.heap.size + 1 + 1, 1, none⟩ = some b3 := by rw [hB3.out.cell]; rfl
      have HX := aa (ho.low hB.out.size); clear ho))
 go_wp2_with fail
 have o1 := aa (HX.out.far (p := ⟨w.heap.size + 1 + 1, 0, none⟩) (own_ne HX.out hB3.out (by decide)) (.bool neg))
 have r1 := aa (show Bk _ _ _ #[_, _] from hB3.out.set_ 0 (.bool neg))
 have o2 := aa (o1.out.far (p := ⟨w.heap.size + 1 + 1, 1, none⟩) (own_ne o1.out r1.out (by decide)) (.slice Av (limbs (val l + val m)).length cv))
 have r2 := aa (show Bk _ _ _ #[.bool neg, .slice Av (limbs (val l + val m)).length cv] from r1.out.set_ 1 (.slice Av (limbs (val l + val m)).length cv))
 refine bodyPost_ret (res_sig rfl _ _ (w.heap.size + 1 + 1) #[.bool neg, .slice Av (limbs (val l + val m)).length cv] rfl ?k1 rfl) rfl ?_
 case k1 => exact r2.out
 rw [HP.out]
 exact ⟨_, rfl, o2.out, (hS.1.out.setCell (by simp; omega) _).setCell (by simp; omega) _⟩
theorem rrat_plus (A B : Option Addr) (c d : Nat) (l m : List Int) (neg too : Bool) (w : World) (h : RdI w .u64 A l) (hn : l.length ≤ c) (h' : RdI w .u64 B m) (hn' : m.length ≤ d) (hu : U64 l) (hu' : U64 m) (h9 : l.length ≤ 100000) (h9' : m.length ≤ 100000) :
    Calls Tryz.prog 264 #[.agg #[.bool neg, .slice A l.length c], .agg #[.bool too, .slice B m.length d]] w fun e w' => ∃ v, e = .returned (.agg #[.bool (plusD neg (val l) too (val m)).1, v]) ∧
     OwnI w' w.heap.size 112 .u64 v (limbs (plusD neg (val l) too (val m)).2) ∧ Below w.heap.size w w' := by
 by_cases hs : neg = too
 ·exact rrat_plus_eq A B c d l m neg too w h hn h' hn' hu hu' h9 h9' hs
 ·exact rrat_plus_ne A B c d l m neg too w h hn h' hn' hu hu' h9 h9' hs
theorem natMulD_ok (l m : List Int) : U64 (natMulD l m).2 ∧ (natMulD l m).2.length ≤ 8 := by
 unfold natMulD
 split
 ·exact ⟨U64.nil, by simp⟩
 ·unfold heldD
  split
  ·exact ⟨U64.nil, by simp⟩
  ·exact ⟨limbs_u64 _, by show (limbs _).length ≤ 8; omega⟩
theorem held_cases (l : List Int) : (8 < l.length ∧ heldD l = (21, [])) ∨ (l.length ≤ 8 ∧ heldD l = (0, l)) := by
 unfold heldD
 by_cases h : 8 < l.length
 ·exact .inl ⟨h, if_pos h⟩
 ·exact .inr ⟨by omega, if_neg h⟩
theorem isBig_yes {rs : List (List Int)} {r : List Int} (h : r ∈ rs) (hl : 8 < r.length) : isBig rs = true := by
 unfold isBig
 rw [List.any_eq_true]
 exact ⟨r, h, decide_eq_true hl⟩
theorem isBig_all {rs : List (List Int)} (h : ∀ r ∈ rs, r.length ≤ 8) : isBig rs = false := by
 unfold isBig
 rw [List.any_eq_false]
 intro r hr
 have := h r hr
 simp; omega
theorem rrat_Add (b0 : Nat) (v u : Value) (r s : RatD) (w : World) (hb0 : b0 ≤ w.heap.size) (h : RRat w b0 v r) (h' : RRat w b0 u s) (hr : r.short) (hs : s.short) :
    Calls Tryz.prog 221 #[v, u] w fun e w' => ∃ x, e = .returned (.tuple #[x, .int .i64 (addD r s).1]) ∧ RRat w' b0 x (addD r s).2 ∧ Below w.heap.size w w' := by
 obtain ⟨E, hE⟩ : ∃ E, addD r s = E := ⟨_, rfl⟩
 rw [hE]
 have HEQ := aa hE
 clear hE
 have M1 := aa (fun W hW => rrat_May b0 v r W hW hr)
 have M2 := aa (fun W hW => rrat_May b0 u s W hW hs)
 have HR := aa h
 have HS := aa h'
 have HB0 := aa hb0
 obtain ⟨A, c, B, d, rfl, h1, h2, h3, h4⟩ := h
 obtain ⟨A', c', B', d', rfl, h1', h2', h3', h4'⟩ := h'
 have HRW := aa (af (af h3 h4) (af h3' h4'))
 clear h3 h4 h3' h4' hb0 hr hs
 go_enter Tryz.func221, Tryz.ntmps221
 go_upto_region 1 with (fail)
 refine wp_gen (fun W => Bx3 w.heap.size w.heap.size (w.heap.size + 1) (w.heap.size + 1 + 1) w W (.bool r.neg) (.slice A r.num.length c) (.slice B r.den.length d) (.bool s.neg) (.slice A' s.num.length c') (.slice B' s.den.length d') (.bool false) (.slice none 0 0) (.slice none 0 0)) (Bx3.mk3 w _ _ _ _ _ _ _ _ _) ?_
 intro W BX
 generalize w.heap.size + 1 + 1 = g3 at BX ⊢
 generalize w.heap.size + 1 = g2 at BX ⊢
 obtain ⟨p0, p1, p2⟩ := BX.out.k1.three
 obtain ⟨p3, p4, p5⟩ := BX.out.k2.three
 obtain ⟨p6, p7, p8⟩ := BX.out.k3.three
 have fz := fun i => BX.out.k3.froz i
 have ML := aa (M1.out W (HR.out.up BX.out.below))
 cases hm1 : ratMay r
 ·rw [hm1] at ML
  have HE : Hd (addD r s = (1, zeroD)) := ⟨by unfold addD; rw [hm1]; rfl⟩
  go_wp2_with fail
  refine ML.out.mono ?_
  rintro e w2 ⟨rfl, hb⟩
  have BX2 := aa (BX.out.up hb)
  obtain ⟨p6, p7, p8⟩ := BX2.out.k3.three
  have fz := fun i => BX2.out.k3.froz i
  go_wp2_with fail
  obtain ⟨d1, d2, d3⟩ := BX2.out.done (.bool false) (.slice none 0 0) (.slice none 0 0)
  refine bodyPost_ret (res_rat2 rfl _ _ g3 #[.bool false, .slice none 0 0, .slice none 0 0] rfl d1 rfl) rfl ?_
  have h5 := HEQ.out.symm.trans HE.out
  subst h5
  exact ⟨_, rfl, RRat.zero _ _, d2⟩
 rw [hm1] at ML
 cases hm2 : ratMay s
 ·have HE : Hd (addD r s = (1, zeroD)) := ⟨by unfold addD; rw [hm1, hm2]; rfl⟩
  go_wp2_with fail
  refine ML.out.mono ?_
  rintro e w2 ⟨rfl, hb⟩
  have BX2 := aa (BX.out.up hb)
  have ML2 := aa (M2.out w2 (HS.out.up BX2.out.below))
  rw [hm2] at ML2
  obtain ⟨p3, p4, p5⟩ := BX2.out.k2.three
  clear hb
  go_wp2_with fail
  refine ML2.out.mono ?_
  rintro e w3 ⟨rfl, hb⟩
  have BX3 := aa (BX2.out.up hb)
  obtain ⟨p6, p7, p8⟩ := BX3.out.k3.three
  have fz := fun i => BX3.out.k3.froz i
  go_wp2_with fail
  obtain ⟨d1, d2, d3⟩ := BX3.out.done (.bool false) (.slice none 0 0) (.slice none 0 0)
  refine bodyPost_ret (res_rat2 rfl _ _ g3 #[.bool false, .slice none 0 0, .slice none 0 0] rfl d1 rfl) rfl ?_
  have h5 := HEQ.out.symm.trans HE.out
  subst h5
  exact ⟨_, rfl, RRat.zero _ _, d2⟩
 obtain ⟨m1, m2, _, _, _⟩ := ratMay_of hm1
 obtain ⟨m1', m2', _, _, _⟩ := ratMay_of hm2
 have l1 := natMay_len m1
 have l2 := natMay_len m2
 have l1' := natMay_len m1'
 have l2' := natMay_len m2'
 have HE : Hd (addD r s = if isBig [limbs (val r.num * val s.den), limbs (val s.num * val r.den), limbs (plusD r.neg (val r.num * val s.den) s.neg (val s.num * val r.den)).2, limbs (val r.den * val s.den)] then (21, zeroD)
  else makeD (plusD r.neg (val r.num * val s.den) s.neg (val s.num * val r.den)).1 (limbs (plusD r.neg (val r.num * val s.den) s.neg (val s.num * val r.den)).2) (limbs (val r.den * val s.den))) := ⟨by unfold addD; rw [hm1, hm2]; rfl⟩
 have hx : natMulD r.num s.den = heldD (limbs (val r.num * val s.den)) := by unfold natMulD; rw [m1, m2']; rfl
 have hy : natMulD s.num r.den = heldD (limbs (val s.num * val r.den)) := by unfold natMulD; rw [m1', m2]; rfl
 have hd : natMulD r.den s.den = heldD (limbs (val r.den * val s.den)) := by unfold natMulD; rw [m2, m2']; rfl
 generalize val r.num * val s.den = X at hx HE
 generalize val s.num * val r.den = Y at hy HE
 generalize val r.den * val s.den = D at hd HE
 have C1 := aa (fun W (hb : Hd (Below w.heap.size w W)) => rnat_Mul A B' c d' r.num s.den W (HRW.out.1.1.rd.up hb.out) h1 (by omega) (HRW.out.2.2.rd.up hb.out) h2' (by omega) HRW.out.1.1.u HRW.out.2.2.u)
 have C2 := aa (fun W (hb : Hd (Below w.heap.size w W)) => rnat_Mul A' B c' d s.num r.den W (HRW.out.2.1.rd.up hb.out) h1' (by omega) (HRW.out.1.2.rd.up hb.out) h2 (by omega) HRW.out.2.1.u HRW.out.1.2.u)
 have C3 := aa (fun W (hb : Hd (Below w.heap.size w W)) => rnat_Mul B B' d d' r.den s.den W (HRW.out.1.2.rd.up hb.out) h2 (by omega) (HRW.out.2.2.rd.up hb.out) h2' (by omega) HRW.out.1.2.u HRW.out.2.2.u)
 obtain ⟨ox1, ox2⟩ := natMulD_ok r.num s.den
 obtain ⟨oy1, oy2⟩ := natMulD_ok s.num r.den
 obtain ⟨od1, od2⟩ := natMulD_ok r.den s.den
 generalize natMulD r.num s.den = Ex at hx C1 ox1 ox2
 generalize natMulD s.num r.den = Ey at hy C2 oy1 oy2
 generalize natMulD r.den s.den = Ed at hd C3 od1 od2
 obtain ⟨ex, P⟩ := Ex
 obtain ⟨ey, Q⟩ := Ey
 obtain ⟨ed, R⟩ := Ed
 dsimp only at C1 C2 C3 ox1 ox2 oy1 oy2 od1 od2
 have HX := aa hx
 have HY := aa hy
 have HD := aa hd
 have HU := aa (af ox1 (af oy1 od1))
 clear m1 m2 m1' m2' l1 l2 l1' l2' hx hy hd hm1 ox1 oy1 od1
 go_wp2_with fail
 refine ML.out.mono ?_
 rintro e w2 ⟨rfl, hb⟩
 have BX2 := aa (BX.out.up hb)
 have ML2 := aa (M2.out w2 (HS.out.up BX2.out.below))
 rw [hm2] at ML2
 obtain ⟨p3, p4, p5⟩ := BX2.out.k2.three
 clear hb hm2 p0 p1 p2 p6 p7 p8
 go_wp2_with fail
 refine ML2.out.mono ?_
 rintro e w3 ⟨rfl, hb⟩
 have BX3 := aa (BX2.out.up hb)
 obtain ⟨p0, p1, p2⟩ := BX3.out.k1.three
 obtain ⟨p3, p4, p5⟩ := BX3.out.k2.three
 clear hb ML ML2 M1 M2 BX BX2
 go_wp2_with fail
 refine (C1.out _ ⟨BX3.out.below⟩).mono ?_
 rintro e w4 ⟨x, rfl, ho, hb⟩
 obtain ⟨Ax, cx, rfl, hcx, _, hrx⟩ := ho.reads
 have BX4 := aa (BX3.out.up hb)
 have HRX := aa hrx
 obtain ⟨p0, p1, p2⟩ := BX4.out.k1.three
 obtain ⟨p3, p4, p5⟩ := BX4.out.k2.three
 clear hb ho hrx BX3 C1
 go_wp2_with fail
 refine (C2.out _ ⟨BX4.out.below⟩).mono ?_
 rintro e w5 ⟨y, rfl, ho, hb⟩
 obtain ⟨Ay, cy, rfl, hcy, _, hry⟩ := ho.reads
 have BX5 := aa (BX4.out.up hb)
 have HRX5 := aa (HRX.out.up hb)
 have HRY := aa hry
 obtain ⟨p0, p1, p2⟩ := BX5.out.k1.three
 obtain ⟨p3, p4, p5⟩ := BX5.out.k2.three
 clear hb ho hry BX4 C2 HRX
 go_wp2_with fail
 refine (C3.out _ ⟨BX5.out.below⟩).mono ?_
 rintro e w6 ⟨z, rfl, ho, hb⟩
 obtain ⟨Ad, cd, rfl, hcd, _, _⟩ := ho.reads
 have BX6 := aa (BX5.out.up hb)
 obtain ⟨p0, p1, p2⟩ := BX6.out.k1.three
 obtain ⟨p3, p4, p5⟩ := BX6.out.k2.three
 have PC := aa (rrat_plus Ax Ay cx cy P Q r.neg s.neg w6 (HRX5.out.up hb) hcx (HRY.out.up hb) hcy HU.out.1 HU.out.2.1 (by omega) (by omega))
 obtain ⟨pn, ps, hp⟩ : ∃ pn ps, plusD r.neg (val P) s.neg (val Q) = (pn, ps) := ⟨_, _, rfl⟩
 rw [hp] at PC
 have HP := aa hp
 have HRD := aa ho
 clear hb ho BX5 C3 HRX5 HRY hp
 go_wp2_with fail
 refine PC.out.mono ?_
 rintro e w7 ⟨z, rfl, ho, hb⟩
 obtain ⟨As, cs, rfl, hcs, _, _⟩ := ho.reads
 have BX7 := aa (BX6.out.up hb)
 have HO := aa ho
 have HRD7 := aa (HRD.out.below hb)
 clear hb ho BX6 HRD PC
 go_upto_region 7 with (fail)
 refine wp_gen (fun W => Below w7.heap.size w7 W ∧ Bk W w7.heap.size 286 #[.bool pn, .slice As (limbs ps).length cs]) ⟨(ag _ _).alloc (ae _) _, Bk.new_ _ _ _⟩ ?_
 intro W8 hW8
 have BX8 := aa (BX7.out.up hW8.out.1)
 have HO8 := aa (HO.out.below hW8.out.1)
 have HRD8 := aa (HRD7.out.below hW8.out.1)
 have q0 : W8.cell? ⟨w7.heap.size, 0, none⟩ = some (.bool pn) := by rw [hW8.out.2.cell]; rfl
 have q1 : W8.cell? ⟨w7.heap.size, 1, none⟩ = some (.slice As (limbs ps).length cs) := by rw [hW8.out.2.cell]; rfl
 clear BX7 HO HRD7 p0 p1 p2 p3 p4 p5 hW8
 obtain ⟨p6, p7, p8⟩ := BX8.out.k3.three
 have fz := fun i => BX8.out.k3.froz i
 have hcase : (((ex = 21 ∨ (ex = 0 ∧ ey = 21)) ∨ ((ex = 0 ∧ ey = 0 ∧ ed = 21) ∨ (ex = 0 ∧ ey = 0 ∧ ed = 0 ∧ 8 < (limbs ps).length))) ∧ addD r s = (21, zeroD)) ∨
     (ex = 0 ∧ ey = 0 ∧ ed = 0 ∧ (limbs ps).length ≤ 8 ∧ R = limbs D ∧ addD r s = makeD pn (limbs ps) (limbs D)) := by
  rcases held_cases (limbs X) with ⟨bx, hx⟩ | ⟨bx, hx⟩
  ·have := HX.out.trans hx; injection this with e1 e2
   exact .inl ⟨.inl (.inl e1), by rw [HE.out, isBig_yes (r := limbs X) (by simp) bx, if_pos rfl]⟩
  have hX := HX.out.trans hx; injection hX with e1 e2
  rcases held_cases (limbs Y) with ⟨bY, hy⟩ | ⟨bY, hy⟩
  ·have := HY.out.trans hy; injection this with e3 e4
   exact .inl ⟨.inl (.inr ⟨e1, e3⟩), by rw [HE.out, isBig_yes (r := limbs Y) (by simp) bY, if_pos rfl]⟩
  have hY := HY.out.trans hy; injection hY with e3 e4
  have hp := HP.out
  rw [e2, e4, val_limbs, val_limbs] at hp
  rw [HE.out, hp]
  rcases held_cases (limbs D) with ⟨bD, hd⟩ | ⟨bD, hd⟩
  ·have := HD.out.trans hd; injection this with e5 e6
   exact .inl ⟨.inr (.inl ⟨e1, e3, e5⟩), by rw [isBig_yes (r := limbs D) (by simp) bD, if_pos rfl]⟩
  have hD := HD.out.trans hd; injection hD with e5 e6
  by_cases bs : 8 < (limbs ps).length
  ·exact .inl ⟨.inr (.inr ⟨e1, e3, e5, bs⟩), by rw [isBig_yes (r := limbs ps) (by simp) bs, if_pos rfl]⟩
  ·refine .inr ⟨e1, e3, e5, by omega, e6, ?_⟩
   rw [isBig_all (rs := [limbs X, limbs Y, limbs ps, limbs D]) (fun r hr => by
    simp only [List.mem_cons, List.not_mem_nil, or_false] at hr
    rcases hr with rfl | rfl | rfl | rfl <;> omega)]
   rfl
 clear HX HY HD HP HE
 rcases hcase with ⟨hc, he⟩ | ⟨rfl, rfl, rfl, hl, rfl, he⟩
 ·have HE := aa he
  clear he
  rcases hc with (rfl | ⟨rfl, rfl⟩) | (⟨rfl, rfl, rfl⟩ | ⟨rfl, rfl, rfl, hl⟩)
  all_goals
   go_wp2_with fail
   obtain ⟨d1, d2, d3⟩ := BX8.out.done (.bool false) (.slice none 0 0) (.slice none 0 0)
   refine bodyPost_ret (res_rat2 rfl _ _ g3 #[.bool false, .slice none 0 0, .slice none 0 0] rfl d1 rfl) rfl ?_
   have h5 := HEQ.out.symm.trans HE.out
   subst h5
   exact ⟨_, rfl, RRat.zero _ _, d2⟩
 ·have CMk := aa (rrat_Make b0 pn As Ad cs cd (limbs ps) (limbs D) W8 (ah HB0.out BX8.out.below.size) (by obtain ⟨_, _, e, _, _, hr⟩ := HO8.out.reads; injection e with e1 e2 e3; subst e1; exact hr) hcs (by obtain ⟨_, _, e, _, _, hr⟩ := HRD8.out.reads; injection e with e1 e2 e3; subst e1; exact hr) hcd (limbs_u64 _) (limbs_u64 _) (by omega) (by omega))
  have HE2 : Hd (makeD pn (limbs ps) (limbs D) = E) := ⟨he.symm.trans HEQ.out⟩
  rw [HE2.out] at CMk
  clear he
  go_wp2_with fail
  refine CMk.out.mono ?_
  rintro e w9 ⟨v, rfl, hr, hb⟩
  have BX9 := aa (BX8.out.up hb)
  obtain ⟨p6, p7, p8⟩ := BX9.out.k3.three
  have fz := fun i => BX9.out.k3.froz i
  have HR9 := aa hr
  obtain ⟨A9, c9, B9, d9, rfl, _, _, _, _⟩ := hr
  clear hb
  go_wp2_with fail
  obtain ⟨d1, d2, d3⟩ := BX9.out.done (.bool E.2.neg) (.slice A9 E.2.num.length c9) (.slice B9 E.2.den.length d9)
  refine bodyPost_ret (res_rat2 rfl _ _ g3 #[.bool E.2.neg, .slice A9 E.2.num.length c9, .slice B9 E.2.den.length d9] rfl d1 rfl) rfl ?_
  exact ⟨_, rfl, d3 _ _ _ HB0.out HR9.out, d2⟩
theorem rrat_Mul (b0 : Nat) (v u : Value) (r s : RatD) (w : World) (hb0 : b0 ≤ w.heap.size) (h : RRat w b0 v r) (h' : RRat w b0 u s) (hr : r.short) (hs : s.short) :
    Calls Tryz.prog 179 #[v, u] w fun e w' => ∃ x, e = .returned (.tuple #[x, .int .i64 (mulD r s).1]) ∧ RRat w' b0 x (mulD r s).2 ∧ Below w.heap.size w w' := by
 obtain ⟨E, hE⟩ : ∃ E, mulD r s = E := ⟨_, rfl⟩
 rw [hE]
 have HEQ := aa hE
 clear hE
 have M1 := aa (fun W hW => rrat_May b0 v r W hW hr)
 have M2 := aa (fun W hW => rrat_May b0 u s W hW hs)
 have HR := aa h
 have HS := aa h'
 have HB0 := aa hb0
 obtain ⟨A, c, B, d, rfl, h1, h2, h3, h4⟩ := h
 obtain ⟨A', c', B', d', rfl, h1', h2', h3', h4'⟩ := h'
 have HRW := aa (af (af h3 h4) (af h3' h4'))
 obtain ⟨nb, hnb⟩ : ∃ nb, (!(r.neg == s.neg)) = nb := ⟨_, rfl⟩
 have HNB : Hd ((r.neg != s.neg) = nb) := ⟨hnb⟩
 clear h3 h4 h3' h4' hb0 hr hs
 go_enter Tryz.func179, Tryz.ntmps179
 go_upto_region 1 with (fail)
 refine wp_gen (fun W => Bx3 w.heap.size w.heap.size (w.heap.size + 1) (w.heap.size + 1 + 1) w W (.bool r.neg) (.slice A r.num.length c) (.slice B r.den.length d) (.bool s.neg) (.slice A' s.num.length c') (.slice B' s.den.length d') (.bool false) (.slice none 0 0) (.slice none 0 0)) (Bx3.mk3 w _ _ _ _ _ _ _ _ _) ?_
 intro W BX
 generalize w.heap.size + 1 + 1 = g3 at BX ⊢
 generalize w.heap.size + 1 = g2 at BX ⊢
 obtain ⟨p0, p1, p2⟩ := BX.out.k1.three
 obtain ⟨p3, p4, p5⟩ := BX.out.k2.three
 obtain ⟨p6, p7, p8⟩ := BX.out.k3.three
 have fz := fun i => BX.out.k3.froz i
 have ML := aa (M1.out W (HR.out.up BX.out.below))
 cases hm1 : ratMay r
 ·rw [hm1] at ML
  have HE : Hd (mulD r s = (1, zeroD)) := ⟨by unfold mulD; rw [hm1]; rfl⟩
  go_wp2_with fail
  refine ML.out.mono ?_
  rintro e w2 ⟨rfl, hb⟩
  have BX2 := aa (BX.out.up hb)
  obtain ⟨p6, p7, p8⟩ := BX2.out.k3.three
  have fz := fun i => BX2.out.k3.froz i
  go_wp2_with fail
  obtain ⟨d1, d2, d3⟩ := BX2.out.done (.bool false) (.slice none 0 0) (.slice none 0 0)
  refine bodyPost_ret (res_rat2 rfl _ _ g3 #[.bool false, .slice none 0 0, .slice none 0 0] rfl d1 rfl) rfl ?_
  have h5 := HEQ.out.symm.trans HE.out
  subst h5
  exact ⟨_, rfl, RRat.zero _ _, d2⟩
 rw [hm1] at ML
 cases hm2 : ratMay s
 ·have HE : Hd (mulD r s = (1, zeroD)) := ⟨by unfold mulD; rw [hm1, hm2]; rfl⟩
  go_wp2_with fail
  refine ML.out.mono ?_
  rintro e w2 ⟨rfl, hb⟩
  have BX2 := aa (BX.out.up hb)
  have ML2 := aa (M2.out w2 (HS.out.up BX2.out.below))
  rw [hm2] at ML2
  obtain ⟨p3, p4, p5⟩ := BX2.out.k2.three
  clear hb
  go_wp2_with fail
  refine ML2.out.mono ?_
  rintro e w3 ⟨rfl, hb⟩
  have BX3 := aa (BX2.out.up hb)
  obtain ⟨p6, p7, p8⟩ := BX3.out.k3.three
  have fz := fun i => BX3.out.k3.froz i
  go_wp2_with fail
  obtain ⟨d1, d2, d3⟩ := BX3.out.done (.bool false) (.slice none 0 0) (.slice none 0 0)
  refine bodyPost_ret (res_rat2 rfl _ _ g3 #[.bool false, .slice none 0 0, .slice none 0 0] rfl d1 rfl) rfl ?_
  have h5 := HEQ.out.symm.trans HE.out
  subst h5
  exact ⟨_, rfl, RRat.zero _ _, d2⟩
 obtain ⟨m1, m2, _, _, _⟩ := ratMay_of hm1
 obtain ⟨m1', m2', _, _, _⟩ := ratMay_of hm2
 have l1 := natMay_len m1
 have l2 := natMay_len m2
 have l1' := natMay_len m1'
 have l2' := natMay_len m2'
 have HE : Hd (mulD r s = if isBig [limbs (val r.num * val s.num), limbs (val r.den * val s.den)] then (21, zeroD)
  else makeD nb (limbs (val r.num * val s.num)) (limbs (val r.den * val s.den))) := ⟨by unfold mulD; rw [hm1, hm2, HNB.out]; rfl⟩
 have hx : natMulD r.num s.num = heldD (limbs (val r.num * val s.num)) := by unfold natMulD; rw [m1, m1']; rfl
 have hd : natMulD r.den s.den = heldD (limbs (val r.den * val s.den)) := by unfold natMulD; rw [m2, m2']; rfl
 generalize val r.num * val s.num = X at hx HE
 generalize val r.den * val s.den = D at hd HE
 have C1 := aa (fun W (hb : Hd (Below w.heap.size w W)) => rnat_Mul A A' c c' r.num s.num W (HRW.out.1.1.rd.up hb.out) h1 (by omega) (HRW.out.2.1.rd.up hb.out) h1' (by omega) HRW.out.1.1.u HRW.out.2.1.u)
 have C3 := aa (fun W (hb : Hd (Below w.heap.size w W)) => rnat_Mul B B' d d' r.den s.den W (HRW.out.1.2.rd.up hb.out) h2 (by omega) (HRW.out.2.2.rd.up hb.out) h2' (by omega) HRW.out.1.2.u HRW.out.2.2.u)
 obtain ⟨ox1, ox2⟩ := natMulD_ok r.num s.num
 obtain ⟨od1, od2⟩ := natMulD_ok r.den s.den
 generalize natMulD r.num s.num = Ex at hx C1 ox1 ox2
 generalize natMulD r.den s.den = Ed at hd C3 od1 od2
 obtain ⟨ex, P⟩ := Ex
 obtain ⟨ed, R⟩ := Ed
 dsimp only at C1 C3 ox1 ox2 od1 od2
 have hcase : ((ex = 21 ∨ (ex = 0 ∧ ed = 21)) ∧ mulD r s = (21, zeroD)) ∨
     (ex = 0 ∧ ed = 0 ∧ P = limbs X ∧ R = limbs D ∧ mulD r s = makeD nb (limbs X) (limbs D)) := by
  rw [HE.out]
  rcases held_cases (limbs X) with ⟨bx, hx'⟩ | ⟨bx, hx'⟩
  ·have := hx.trans hx'; injection this with e1 e2
   exact .inl ⟨.inl e1, by rw [isBig_yes (r := limbs X) (by simp) bx, if_pos rfl]⟩
  have hX := hx.trans hx'; injection hX with e1 e2
  rcases held_cases (limbs D) with ⟨bD, hd'⟩ | ⟨bD, hd'⟩
  ·have := hd.trans hd'; injection this with e5 e6
   exact .inl ⟨.inr ⟨e1, e5⟩, by rw [isBig_yes (r := limbs D) (by simp) bD, if_pos rfl]⟩
  have hD := hd.trans hd'; injection hD with e5 e6
  refine .inr ⟨e1, e5, e2, e6, ?_⟩
  rw [isBig_all (rs := [limbs X, limbs D]) (fun r hr => by
   simp only [List.mem_cons, List.not_mem_nil, or_false] at hr
   rcases hr with rfl | rfl <;> omega)]
  rfl
 have HC := aa hcase
 clear m1 m2 m1' m2' l1 l2 l1' l2' hx hd hm1 ox1 od1 HE hcase
 go_wp2_with fail
 refine ML.out.mono ?_
 rintro e w2 ⟨rfl, hb⟩
 have BX2 := aa (BX.out.up hb)
 have ML2 := aa (M2.out w2 (HS.out.up BX2.out.below))
 rw [hm2] at ML2
 obtain ⟨p3, p4, p5⟩ := BX2.out.k2.three
 clear hb hm2 p0 p1 p2 p6 p7 p8
 go_wp2_with fail
 refine ML2.out.mono ?_
 rintro e w3 ⟨rfl, hb⟩
 have BX3 := aa (BX2.out.up hb)
 obtain ⟨p0, p1, p2⟩ := BX3.out.k1.three
 obtain ⟨p3, p4, p5⟩ := BX3.out.k2.three
 clear hb ML ML2 M1 M2 BX BX2
 go_wp2_with fail
 refine (C1.out _ ⟨BX3.out.below⟩).mono ?_
 rintro e w4 ⟨x, rfl, ho, hb⟩
 obtain ⟨Ax, cx, rfl, hcx, _, hrx⟩ := ho.reads
 have BX4 := aa (BX3.out.up hb)
 have HRX := aa hrx
 obtain ⟨p0, p1, p2⟩ := BX4.out.k1.three
 obtain ⟨p3, p4, p5⟩ := BX4.out.k2.three
 clear hb ho hrx BX3 C1
 go_wp2_with fail
 refine (C3.out _ ⟨BX4.out.below⟩).mono ?_
 rintro e w6 ⟨z, rfl, ho, hb⟩
 obtain ⟨Ad, cd, rfl, hcd, _, hrd⟩ := ho.reads
 have BX6 := aa (BX4.out.up hb)
 have HRX6 := aa (HRX.out.up hb)
 have HRD := aa hrd
 obtain ⟨p0, p1, p2⟩ := BX6.out.k1.three
 obtain ⟨p3, p4, p5⟩ := BX6.out.k2.three
 obtain ⟨p6, p7, p8⟩ := BX6.out.k3.three
 have fz := fun i => BX6.out.k3.froz i
 clear hb ho hrd BX4 C3 HRX
 rcases HC.out with ⟨hc, he⟩ | ⟨rfl, rfl, rfl, rfl, he⟩
 ·have HE := aa he
  clear he
  rcases hc with rfl | ⟨rfl, rfl⟩
  all_goals
   go_wp2_with fail
   obtain ⟨d1, d2, d3⟩ := BX6.out.done (.bool false) (.slice none 0 0) (.slice none 0 0)
   refine bodyPost_ret (res_rat2 rfl _ _ g3 #[.bool false, .slice none 0 0, .slice none 0 0] rfl d1 rfl) rfl ?_
   have h5 := HEQ.out.symm.trans HE.out
   subst h5
   exact ⟨_, rfl, RRat.zero _ _, d2⟩
 ·have CMk := aa (rrat_Make b0 nb Ax Ad cx cd (limbs X) (limbs D) w6 (ah HB0.out BX6.out.below.size) HRX6.out hcx HRD.out hcd (limbs_u64 _) (limbs_u64 _) (by omega) (by omega))
  have HE2 : Hd (makeD nb (limbs X) (limbs D) = E) := ⟨he.symm.trans HEQ.out⟩
  rw [HE2.out] at CMk
  clear he
  go_wp2_with fail
  refine CMk.out.mono ?_
  rintro e w9 ⟨v, rfl, hr, hb⟩
  have BX9 := aa (BX6.out.up hb)
  obtain ⟨p6, p7, p8⟩ := BX9.out.k3.three
  have fz := fun i => BX9.out.k3.froz i
  have HR9 := aa hr
  obtain ⟨A9, c9, B9, d9, rfl, _, _, _, _⟩ := hr
  clear hb
  go_wp2_with fail
  obtain ⟨d1, d2, d3⟩ := BX9.out.done (.bool E.2.neg) (.slice A9 E.2.num.length c9) (.slice B9 E.2.den.length d9)
  refine bodyPost_ret (res_rat2 rfl _ _ g3 #[.bool E.2.neg, .slice A9 E.2.num.length c9, .slice B9 E.2.den.length d9] rfl d1 rfl) rfl ?_
  exact ⟨_, rfl, d3 _ _ _ HB0.out HR9.out, d2⟩
end Go.Proofs.YtgjkgkgieeoalaaGreat
