/- Parts of the proof, joined: each theorem says what it shows. -/
import Derived.Test.YtgjkgkgieeoalaaGreatF01
import Derived.Test.YtgjkgkgieeoalaaGreatF04
set_option linter.unusedVariables false
set_option linter.unusedSimpArgs false
set_option maxHeartbeats 24000000
set_option maxRecDepth 100000
namespace Go.Proofs.YtgjkgkgieeoalaaGreat
open Go.RowKit
theorem ref_at (A : Option Addr) (c : Nat) (l : List Int) (I : Int) (i : Nat) (hI : I = i) (w : World) (h : RdI w .u64 A l) (hn : l.length ≤ c) (h9 : l.length ≤ 1000000000) (hi9 : i ≤ 1000000000) :
    Calls Tryz.prog 295 #[.slice A l.length c, .int .i64 I] w fun e w' => e = .returned (.int .u64 (l.getD i 0)) ∧ w = w' := by
 subst hI
 by_cases hlt : i < l.length
 ·obtain ⟨ad, x, rfl, _, hx, hc⟩ := h.get hlt
  have i2 : (i : Int) < l.length := by omega
  have i3 : (0 : Int) ≤ i := by omega
  rw [hx.out]
  clear hx h
  go_enter Tryz.func295, Tryz.ntmps295
  go_wp2_with fail
  go_ret
  exact ⟨rfl, rfl⟩
 ·have i2 : ¬ (i : Int) < l.length := by omega
  have HO := aa (getD_out (Nat.le_of_not_lt hlt))
  clear h hlt
  go_enter Tryz.func295, Tryz.ntmps295
  go_wp2_with fail
  go_ret
  exact ⟨retInt HO.out.symm, rfl⟩
theorem take_eq_succ' {l m : List Int} {i : Nat} (hl : i < l.length) (hm : i < m.length) (h : l.take i = m.take i) (e : l.getD i 0 = m.getD i 0) : l.take (i + 1) = m.take (i + 1) := by
 rw [take_snoc hl, take_snoc hm, h, e]
theorem ref_Same (A B : Option Addr) (c d : Nat) (l m : List Int) (w : World) (h : RdI w .u64 A l) (hn : l.length ≤ c) (h' : RdI w .u64 B m) (hn' : m.length ≤ d) (h9 : l.length ≤ 1000000000) (h9' : m.length ≤ 1000000000) :
    Calls Tryz.prog 220 #[.slice A l.length c, .slice B m.length d] w fun e w' => e = .returned (.bool (decide (l = m))) ∧ Dr w w' := by
 by_cases hl : l.length = m.length
 ·have hb : ((l.length : Int) != (m.length : Int)) = false := by rw [bne_eq_false_iff_eq]; omega
  have HL := aa hl
  have H := aa h
  have H' := aa h'
  clear h h' hl
  go_enter Tryz.func220, Tryz.ntmps220
  go_wp2_with fail
  go_loopw [5] (fun v wr => ∃ i : Nat, v = .int .i64 i ∧ i ≤ l.length ∧ Hd (l.take i = m.take i) ∧ Hd (Dr w wr)) (fun v _ => l.length - (intOf v).toNat)
  case atStart => exact ⟨0, rfl, by omega, ⟨by simp⟩, ⟨.refl _⟩⟩
  case round =>
   obtain ⟨i, rfl, hi, ht, ⟨⟨nq, rfl⟩⟩⟩ := hrel
   by_cases hlt : i < l.length
   ·have hlt2 : i < m.length := by have := HL.out; omega
    obtain ⟨ad, x, rfl, _, hx, hcx⟩ := H.out.get hlt
    obtain ⟨bd, y, rfl, _, hy, hcy⟩ := H'.out.get hlt2
    have i1 : (i : Int) < m.length := by omega
    have i2 : (i : Int) < l.length := by omega
    have i3 : (0 : Int) ≤ i := by omega
    by_cases hxy : x = y
    ·have hbn : (x != y) = false := by rw [bne_eq_false_iff_eq]; exact hxy
     go_wp2_with fail
     go_quiet (fail)
     go_wp2_with fail
     go_roundw
     case measure => first | (simp [intOf]; done) | (simp [intOf]; omega)
     case rel => exact ⟨i + 1, by go_num, by omega, ⟨take_eq_succ' hlt hlt2 ht.out (by rw [hx.out, hy.out]; exact hxy)⟩, ⟨by repeat (first | exact .refl _ | apply Dr.dn)⟩⟩
    ·have hbn : (x != y) = true := by rw [bne_iff_ne]; exact hxy
     go_wp2_with fail
     go_quiet (fail)
     go_wp2_with fail
     go_ret
     refine ⟨retBool (decide_eq_false ?_).symm, by repeat (first | exact .refl _ | apply Dr.dn)⟩
     intro e
     apply hxy
     rw [← hx.out, ← hy.out, e]
   ·have hie : i = l.length := by omega
    subst hie
    go_wp2_with fail
    go_ret
    refine ⟨retBool (decide_eq_true ?_).symm, by repeat (first | exact .refl _ | apply Dr.dn)⟩
    have := ht.out
    rwa [List.take_length, HL.out, List.take_length] at this
 ·have hb : ((l.length : Int) != (m.length : Int)) = true := by rw [bne_iff_ne]; omega
  have HL := aa hl
  clear hl
  go_enter Tryz.func220, Tryz.ntmps220
  go_wp2_with fail
  go_ret
  exact ⟨retBool (decide_eq_false (fun e => HL.out (by rw [e]))).symm, .refl _⟩
theorem trimL_zero {l : List Int} {n : Nat} (hn : n < l.length) (h0 : l.getD n 0 = 0) : trimL (l.take (n + 1)) = trimL (l.take n) := by
 rw [take_snoc hn, h0]; exact trimL_snoc0 _
theorem trimL_stop {l : List Int} {n : Nat} (hn : n < l.length) (h0 : l.getD n 0 ≠ 0) : trimL (l.take (n + 1)) = l.take (n + 1) := by
 rw [take_snoc hn]; exact trimL_snoc _ _ h0
theorem ref_Trim (A : Option Addr) (c : Nat) (l : List Int) (w : World) (h : RdI w .u64 A l) (hn : l.length ≤ c) (hb9 : l.length ≤ 1000000000) :
    Calls Tryz.prog 202 #[.slice A l.length c] w fun e w' => ∃ v, e = .returned v ∧ OwnI w' w.heap.size 112 .u64 v (trimL l) ∧ Below w.heap.size w w' := by
 obtain ⟨i0, hi0, hz0, hz1, hz2⟩ := info_split Tryz.infU64
 have H := aa h
 clear h
 go_enter Tryz.func202, Tryz.ntmps202
 go_wp2_with fail
 go_loop [3] (fun v => ∃ n : Nat, v = .int .i64 n ∧ n ≤ l.length ∧ Hd (trimL l = trimL (l.take n))) (fun v => (intOf v).toNat)
 case atStart => exact ⟨l.length, rfl, ae _, ⟨by rw [List.take_length]⟩⟩
 case round =>
  obtain ⟨n, rfl, hle, ht⟩ := hrel
  rcases Nat.eq_zero_or_pos n with hz | hz
  ·subst hz
   have HT : Hd (trimL l = l.take 0) := ⟨by rw [ht.out]; rfl⟩
   clear ht
   obtain ⟨n, hn0⟩ : ∃ n, n = 0 := ⟨0, rfl⟩
   have g1 : decide ((0 : Int) < (n : Int)) = false := decide_eq_false (by omega)
   have g2 : decide (0 < n) = false := decide_eq_false (by omega)
   have HN := aa hn0
   rw [← hn0] at HT hle
   rw [show ((0 : Nat) : Int) = (n : Int) by omega]
   clear hn0
   have HO := aa (show (w.alloc (.cells #[] 112)).ownsRow w.heap.size 112 1 (.slice (some ⟨w.heap.size, 0, none⟩) 0 0) 0 [] from World.ownsRow_lit w #[] 0 (ae _) (by unfold maxLen; omega) rfl)
   have HR := aa (Rd.up (Rd.pre (m := n) H.out hle) ((ag w.heap.size w).alloc (ae _) (.cells #[] 112)))
   have h1 : ∀ u ∈ (ints .u64 l).take (n * 1), u.oneCell' = true := fun u hu => ints_one _ _ u (List.mem_of_mem_take hu)
   have H1 := aa h1
   have x63 : 0 + n ≤ maxLen := by unfold maxLen; omega
   have xby : (0 + n) * 8 ≤ 140737488355328 := by omega
   have n5 : (0 : Int) ≤ (n : Int) := by omega
   have n6 : (n : Int) ≤ (c : Int) := by omega
   have XS : Hd (w.heap.size ≤ (w.alloc (.cells #[] 112)).heap.size) := ⟨by simp⟩
   clear h1
   go_wp2_with (at_builtin; refine wpList_append_rd _ rfl _ _ 61 rfl w.heap.size 112 i0 (.int .u64 0) 1 8 Tryz.slU64 hi0 hz0 hz1 hz2 rfl (by decide) _ 0 [] rfl HO.out _ _ n _ _ rfl HR.out H1.out x63 xby XS.out ?_)
   intro v' w' ho hg _
   have HV := aa ho
   have HB := aa (grown_below HO.out hg ((ag _ _).alloc (ae _) _) XS.out)
   clear ho hg
   go_wp2_with fail
   go_ret
   refine ⟨_, rfl, ?_, HB.out⟩
   rw [HT.out]
   have hv : w'.ownsRow w.heap.size 112 1 v' n ((ints .u64 l).take n) := by simpa using HV.out
   unfold OwnI
   rw [show (l.take n).length = n by rw [List.length_take]; omega]
   rw [show ints .u64 (l.take n) = (ints .u64 l).take n by simp [ints, List.map_take]]
   exact hv
  ·obtain ⟨m, rfl⟩ : ∃ m, n = m + 1 := ⟨n - 1, by omega⟩
   have hm : m < l.length := by omega
   obtain ⟨ad, x, rfl, _, hx, hcx⟩ := H.out.get hm
   obtain ⟨n, hn1⟩ : ∃ n, n = m + 1 := ⟨_, rfl⟩
   have g1 : decide ((0 : Int) < (n : Int)) = true := decide_eq_true (by omega)
   have n1 : IntKind.i64.wrap ((n : Int) - 1) = m := by rw [IntKind.wrap_i64]; omega
   have n2 : (0 : Int) ≤ m := by omega
   have n3 : (m : Int) < l.length := by omega
   rw [← hn1] at ht hle hz ⊢
   have HN := aa hn1
   clear hn1
   by_cases h0 : x = 0
   ·have e1 : (x == 0) = true := by rw [beq_iff_eq]; exact h0
    have HT : Hd (trimL l = trimL (l.take m)) := ⟨by rw [ht.out, HN.out, trimL_zero hm (by rw [hx.out]; exact h0)]⟩
    clear h0 ht hx
    go_wp2_with fail
    go_round
    case measure => first | (simp [intOf]; done) | (simp [intOf]; have := HN.out; omega)
    case rel => exact ⟨m, by go_num, by omega, HT⟩
   ·have e1 : (x == 0) = false := by rw [beq_eq_false_iff_ne]; exact h0
    have HT : Hd (trimL l = l.take n) := ⟨by rw [ht.out, HN.out, trimL_stop hm (by rw [hx.out]; exact h0)]⟩
    clear h0 ht hx
    have HO := aa (show (w.alloc (.cells #[] 112)).ownsRow w.heap.size 112 1 (.slice (some ⟨w.heap.size, 0, none⟩) 0 0) 0 [] from World.ownsRow_lit w #[] 0 (ae _) (by unfold maxLen; omega) rfl)
    have HR := aa (Rd.up (Rd.pre (m := n) H.out hle) ((ag w.heap.size w).alloc (ae _) (.cells #[] 112)))
    have h1 : ∀ u ∈ (ints .u64 l).take (n * 1), u.oneCell' = true := fun u hu => ints_one _ _ u (List.mem_of_mem_take hu)
    have H1 := aa h1
    have x63 : 0 + n ≤ maxLen := by unfold maxLen; omega
    have xby : (0 + n) * 8 ≤ 140737488355328 := by omega
    have n5 : (0 : Int) ≤ (n : Int) := by omega
    have n6 : (n : Int) ≤ (c : Int) := by omega
    have XS : Hd (w.heap.size ≤ (w.alloc (.cells #[] 112)).heap.size) := ⟨by simp⟩
    clear h1
    go_wp2_with (at_builtin; refine wpList_append_rd _ rfl _ _ 61 rfl w.heap.size 112 i0 (.int .u64 0) 1 8 Tryz.slU64 hi0 hz0 hz1 hz2 rfl (by decide) _ 0 [] rfl HO.out _ _ n _ _ rfl HR.out H1.out x63 xby XS.out ?_)
    intro v' w' ho hg _
    have HV := aa ho
    have HB := aa (grown_below HO.out hg ((ag _ _).alloc (ae _) _) XS.out)
    clear ho hg
    go_wp2_with fail
    go_ret
    refine ⟨_, rfl, ?_, HB.out⟩
    rw [HT.out]
    have hv : w'.ownsRow w.heap.size 112 1 v' n ((ints .u64 l).take n) := by simpa using HV.out
    unfold OwnI
    rw [show (l.take n).length = n by rw [List.length_take]; omega]
    rw [show ints .u64 (l.take n) = (ints .u64 l).take n by simp [ints, List.map_take]]
    exact hv
theorem take_val_lt {l : List Int} (h : U64 l) (k : Nat) : val (l.take k) < 18446744073709551616 ^ k := by
 refine Nat.lt_of_lt_of_le (val_lt (h.take k)) (Nat.pow_le_pow_right (by decide) (List.length_take_le _ _))
theorem cmp_digit {l m : List Int} (hl : U64 l) (hm : U64 m) (k : Nat) :
    (l.getD k 0 < m.getD k 0 → cmpN (val (l.take (k + 1))) (val (m.take (k + 1))) = -1) ∧ (m.getD k 0 < l.getD k 0 → cmpN (val (l.take (k + 1))) (val (m.take (k + 1))) = 1) ∧
    (l.getD k 0 = m.getD k 0 → cmpN (val (l.take (k + 1))) (val (m.take (k + 1))) = cmpN (val (l.take k)) (val (m.take k))) := by
 have h1 := take_val_lt hl k
 have h2 := take_val_lt hm k
 obtain ⟨a0, _⟩ := hl.at_ k
 obtain ⟨b0, _⟩ := hm.at_ k
 rw [val_take_succ, val_take_succ]
 generalize 18446744073709551616 ^ k = P at h1 h2
 generalize val (l.take k) = x at h1
 generalize val (m.take k) = y at h2
 generalize l.getD k 0 = a at a0
 generalize m.getD k 0 = b at b0
 refine ⟨fun h => cmpN_lt ?_, fun h => cmpN_gt ?_, fun h => ?_⟩
 ·obtain ⟨d, hd⟩ : ∃ d, b.toNat = a.toNat + 1 + d := ⟨b.toNat - a.toNat - 1, by omega⟩
  rw [hd, Nat.mul_add, Nat.mul_add, Nat.mul_one]; omega
 ·obtain ⟨d, hd⟩ : ∃ d, a.toNat = b.toNat + 1 + d := ⟨a.toNat - b.toNat - 1, by omega⟩
  rw [hd, Nat.mul_add, Nat.mul_add, Nat.mul_one]; omega
 ·subst h
  unfold cmpN
  by_cases h3 : x < y
  ·rw [if_pos h3, if_pos (by omega)]
  ·rw [if_neg h3, if_neg (by omega)]
   by_cases h4 : y < x
   ·rw [if_pos h4, if_pos (by omega)]
   ·rw [if_neg h4, if_neg (by omega)]
theorem ref_Cmp (A B : Option Addr) (c d : Nat) (l m : List Int) (w : World) (h : RdI w .u64 A l) (hn : l.length ≤ c) (h9 : l.length ≤ 1000000) (h' : RdI w .u64 B m) (hn' : m.length ≤ d) (h9' : m.length ≤ 1000000) (hu : U64 l) (hu' : U64 m) :
    Calls Tryz.prog 260 #[.slice A l.length c, .slice B m.length d] w fun e w' => e = .returned (.int .i64 (cmpN (val l) (val m))) ∧ w = w' := by
 obtain ⟨N, hN⟩ : ∃ N, N = max l.length m.length := ⟨_, rfl⟩
 have hN9 : N ≤ 1000000 := by omega
 have hl1 : l.length ≤ N := by omega
 have hm1 : m.length ≤ N := by omega
 have HN : Hd (max (l.length : Int) (m.length : Int) = N) := ⟨by omega⟩
 have C1 := aa (fun I i hI hi => ref_at A c l I i hI w h hn (by omega) hi)
 have C2 := aa (fun I i hI hi => ref_at B d m I i hI w h' hn' (by omega) hi)
 have HU := aa (af hu hu')
 clear h h' hN hu hu'
 go_enter Tryz.func260, Tryz.ntmps260
 go_wp2_with fail
 go_loop [5] (fun v => ∃ k : Nat, v = .int .i64 ((k : Int) - 1) ∧ k ≤ N ∧ Hd (cmpN (val l) (val m) = cmpN (val (l.take k)) (val (m.take k)))) (fun v => (intOf v + 1).toNat)
 case atStart =>
  refine ⟨N, ?_, ae _, ⟨by rw [List.take_of_length_le hl1, List.take_of_length_le hm1]⟩⟩
  have := HN.out
  first
   | (rw [this])
   | (congr 1; omega)
 case round =>
  obtain ⟨k, rfl, hle, ht⟩ := hrel
  rcases Nat.eq_zero_or_pos k with hz | hz
  ·subst hz
   have HE : Hd (cmpN (val l) (val m) = 0) := ⟨by rw [ht.out]; rfl⟩
   clear ht
   go_wp2_with fail
   go_ret
   exact ⟨retInt HE.out.symm, rfl⟩
  ·obtain ⟨i, hi⟩ : ∃ i, k = i + 1 := ⟨k - 1, by omega⟩
   subst hi
   have e0 : (((i + 1 : Nat) : Int) - 1) = i := by omega
   rw [e0]
   clear e0
   have i3 : (0 : Int) ≤ i := by omega
   obtain ⟨D1, D2, D3⟩ := cmp_digit HU.out.1 HU.out.2 i
   have X1 := C1.out (i : Int) i rfl (by omega)
   have X2 := C2.out (i : Int) i rfl (by omega)
   obtain ⟨x, hx⟩ : ∃ x, l.getD i 0 = x := ⟨_, rfl⟩
   obtain ⟨y, hy⟩ : ∃ y, m.getD i 0 = y := ⟨_, rfl⟩
   rw [hx] at X1 D1 D2 D3
   rw [hy] at X2 D1 D2 D3
   have HX1 := aa X1
   have HX2 := aa X2
   have HD := aa (af D1 (af D2 D3))
   clear X1 X2 D1 D2 D3 hx hy
   by_cases h1 : x < y
   ·have HE : Hd (cmpN (val l) (val m) = -1) := ⟨by rw [ht.out]; exact HD.out.1 h1⟩
    clear ht HD
    go_wp2_with fail
    refine HX1.out.mono ?_
    rintro e w' ⟨rfl, rfl⟩
    go_wp2_with fail
    refine HX2.out.mono ?_
    rintro e w' ⟨rfl, rfl⟩
    go_wp2_with fail
    go_ret
    exact ⟨retInt HE.out.symm, rfl⟩
   ·by_cases h2 : y < x
    ·have HE : Hd (cmpN (val l) (val m) = 1) := ⟨by rw [ht.out]; exact HD.out.2.1 h2⟩
     clear ht HD
     go_wp2_with fail
     refine HX1.out.mono ?_
     rintro e w' ⟨rfl, rfl⟩
     go_wp2_with fail
     refine HX2.out.mono ?_
     rintro e w' ⟨rfl, rfl⟩
     go_wp2_with fail
     refine HX1.out.mono ?_
     rintro e w' ⟨rfl, rfl⟩
     go_wp2_with fail
     refine HX2.out.mono ?_
     rintro e w' ⟨rfl, rfl⟩
     go_wp2_with fail
     go_ret
     exact ⟨retInt HE.out.symm, rfl⟩
    ·have HE : Hd (cmpN (val l) (val m) = cmpN (val (l.take i)) (val (m.take i))) := ⟨by rw [ht.out]; exact HD.out.2.2 (by omega)⟩
     clear ht HD
     go_wp2_with fail
     refine HX1.out.mono ?_
     rintro e w' ⟨rfl, rfl⟩
     go_wp2_with fail
     refine HX2.out.mono ?_
     rintro e w' ⟨rfl, rfl⟩
     go_wp2_with fail
     refine HX1.out.mono ?_
     rintro e w' ⟨rfl, rfl⟩
     go_wp2_with fail
     refine HX2.out.mono ?_
     rintro e w' ⟨rfl, rfl⟩
     go_wp2_with fail
     go_round
     case measure => first | (simp [intOf]; done) | (simp [intOf]; omega)
     case rel => exact ⟨i, by go_num, by omega, HE⟩
theorem step_append_rdN {P : Program} (w : World) {ops : Array Oper} {o : Oper} {a : Act} {K : Act → World → Prop} {Q : Exit → Act → World → Prop} {E : Prop} (hgd : o.guard = none) (s x : Operand) (t : TypeId)
    (ho : o.op = .call { callee := .builtin .append, args := #[s, x], argTypes := #[t, t] })
    (base : Nat) (e : TypeId) (i : TypeInfo) (z : Value) (sz bytes : Nat) (ht : P.underlying t = some (.slice e)) (hi : P.info? e = some i) (hz : i.zero = some z)
    (hsize : i.size = sz) (hby : i.bytes = bytes) (hzs : z.cells.size = sz) (hsz : 0 < sz)
    (v : Value) (n : Nat) (xs : List Value) (hs : a.eval s = v) (hown : w.ownsRow base e sz v n xs)
    (B : Nat) (A : Option Addr) (m c : Nat) (news : List Value) (hx : a.eval x = .slice A m c) (hr : Rd w B sz A m news) (h1 : ∀ u ∈ news, u.oneCell' = true)
    (h63 : n + m ≤ maxLen) (hbytes : (n + m) * bytes ≤ 140737488355328) (hbase : base ≤ w.heap.size)
    (h : ∀ v' w', w'.ownsRow base e sz v' (n + m) (xs ++ news) → w.grownBy w' v.ownBlock → (v'.ownBlock = v.ownBlock ∨ v'.ownBlock = some w.heap.size) → K (a.put o.dst v') w') :
    if Region.wanted o (yielded ops a.tmps) = true then Oper.wp P o a w K Q else E := by
 have hw : Region.wanted o (yielded ops a.tmps) = true := by simp [Region.wanted, hgd]
 rw [if_pos hw]
 exact wp_append_rd w s x t ho base e i z sz bytes ht hi hz hsize hby hzs hsz v n xs hs hown B A m c news hx hr h1 h63 hbytes hbase h
def digs (l : List Int) : List Int := l.flatMap fun x => [x % 4294967296, x / 4294967296]
theorem digs_snoc {l : List Int} {i : Nat} (h : i < l.length) : digs (l.take (i + 1)) = digs (l.take i) ++ [l.getD i 0 % 4294967296, l.getD i 0 / 4294967296] := by
 rw [take_snoc h]; simp [digs]
theorem digs_len (l : List Int) : (digs l).length = 2 * l.length := by
 induction l with
 | nil => rfl
 | cons x l ih => simp only [digs, List.flatMap_cons, List.length_append, List.length_cons] at *; simp at *; omega
theorem ref_Digits (A : Option Addr) (c : Nat) (l : List Int) (w : World) (h : RdI w .u64 A l) (hn : l.length ≤ c) (hb9 : l.length ≤ 1000000) (hu : U64 l) :
    Calls Tryz.prog 257 #[.slice A l.length c] w fun e w' => ∃ v, e = .returned v ∧ OwnI w' w.heap.size 112 .u64 v (digs l) ∧ Below w.heap.size w w' := by
 obtain ⟨i0, hi0, hz0, hz1, hz2⟩ := info_split Tryz.infU64
 have H := aa h
 have HU := aa hu
 clear h hu
 have HO0 := aa (show OwnI (w.alloc (.cells #[] 112)) w.heap.size 112 .u64 (.slice (some ⟨w.heap.size, 0, none⟩) 0 0) [] from World.ownsRow_lit w #[] 0 (ae _) (by unfold maxLen; omega) rfl)
 go_enter Tryz.func257, Tryz.ntmps257
 go_wp2_with fail
 go_loopw [3, 4] (fun v3 v4 wr => ∃ i : Nat, v4 = .int .i64 i ∧ i ≤ l.length ∧ Hd (OwnI wr w.heap.size 112 .u64 v3 (digs (l.take i))) ∧ Hd (Below w.heap.size w wr)) (fun _ v _ => l.length - (intOf v).toNat)
 case atStart => exact ⟨0, rfl, by omega, HO0, ⟨(ag _ _).alloc (ae _) _⟩⟩
 case round =>
  obtain ⟨i, rfl, hi, ho, hb⟩ := hrel
  by_cases hlt : i < l.length
  ·obtain ⟨ad, x, rfl, _, hx, hcx⟩ := (H.out.up hb.out).get hlt
   have i2 : (i : Int) < l.length := by omega
   have i3 : (0 : Int) ≤ i := by omega
   have hx0 := HU.out.at_ i
   rw [hx.out] at hx0
   obtain ⟨hx0, hx1⟩ := hx0
   obtain ⟨p, r1⟩ : ∃ p, x.tmod 4294967296 = p := ⟨_, rfl⟩
   obtain ⟨q, r2⟩ : ∃ q, IntKind.u64.wrap (x.tdiv 4294967296) = q := ⟨_, rfl⟩
   have HPQ : Hd (p = x % 4294967296 ∧ q = x / 4294967296) := ⟨by
    rw [← r1, ← r2, Int.tmod_eq_emod_of_nonneg hx0, Int.tdiv_eq_ediv_of_nonneg hx0]
    refine ⟨rfl, ?_⟩
    simp [IntKind.wrap, IntKind.bits, IntKind.signed]
    omega⟩
   have HF : Hd (digs (l.take (i + 1)) = digs (l.take i) ++ [p, q]) := ⟨by rw [digs_snoc hlt, hx.out, HPQ.out.1, HPQ.out.2]⟩
   obtain ⟨F, hF⟩ : ∃ F, digs (l.take i) = F := ⟨_, rfl⟩
   have hFl : F.length ≤ 2000000 := by
    rw [← hF, digs_len]
    have := List.length_take_le i l
    omega
   rw [hF] at ho HF
   have OO := aa (ho.out.d1.al (.cells #[.int .u64 p, .int .u64 q] 112))
   have RN := aa (Rd.new_ wr.drew #[.int .u64 p, .int .u64 q] 112 2 1 rfl)
   have BB := aa ((hb.out.drew.alloc hb.out.size (.cells #[.int .u64 p, .int .u64 q] 112)))
   have XS := aa BB.out.size
   have x63 : F.length + 2 ≤ maxLen := by unfold maxLen; omega
   have xby : (F.length + 2) * 8 ≤ 140737488355328 := by omega
   clear hF hx
   go_wp2_with fail
   refine wp_region_any (by kernel_rfl) ?_
   try (change wpAny _ _ _ _ _ _ _ (World.drew _))
   refine takeP 0 12 (v := ?_) rfl rfl (by kernel_rfl) (by kernel_rfl) (by kernel_rfl) (fun _ _ _ h => h) (by kernel_rfl) ?_ ?_
   rotate_left
   ·intro w; first | (go_simp; done) | (go_simp; with_reducible rfl)
   simp only [Act.put, List.setIfInBounds_toArray, List.set_cons_zero, List.set_cons_succ]
   refine takeP 1 13 (v := ?_) rfl rfl (by kernel_rfl) (by kernel_rfl) (by kernel_rfl) (fun _ _ _ h => h) (by kernel_rfl) ?_ ?_
   rotate_left
   ·intro w; first | (go_simp; done) | (go_simp; with_reducible rfl)
   simp only [Act.put, List.setIfInBounds_toArray, List.set_cons_zero, List.set_cons_succ]
   refine takeP 2 14 (v := ?_) rfl rfl (by kernel_rfl) (by kernel_rfl) (by kernel_rfl) (fun _ _ _ h => h) (by kernel_rfl) ?_ ?_
   rotate_left
   ·intro w; first | (go_simp; done) | (go_simp; with_reducible rfl)
   simp only [Act.put, List.setIfInBounds_toArray, List.set_cons_zero, List.set_cons_succ]
   refine takeP 3 15 (v := ?_) rfl rfl (by kernel_rfl) (by kernel_rfl) (by kernel_rfl) (fun _ _ _ h => h) (by kernel_rfl) ?_ ?_
   rotate_left
   ·intro w; first | (go_simp; done) | (go_simp; with_reducible rfl)
   simp only [Act.put, List.setIfInBounds_toArray, List.set_cons_zero, List.set_cons_succ]
   refine takeP 6 18 (v := ?_) rfl rfl (by kernel_rfl) (by kernel_rfl) (by kernel_rfl) (fun _ _ _ h => h) (by kernel_rfl) ?_ ?_
   rotate_left
   ·intro w; first | (go_simp; done) | (go_simp; with_reducible rfl)
   simp only [Act.put, List.setIfInBounds_toArray, List.set_cons_zero, List.set_cons_succ]
   refine takeP 7 19 (v := ?_) rfl rfl (by kernel_rfl) (by kernel_rfl) (by kernel_rfl) (fun _ _ _ h => h) (by kernel_rfl) ?_ ?_
   rotate_left
   ·intro w; first | (go_simp; done) | (go_simp; with_reducible rfl)
   simp only [Act.put, List.setIfInBounds_toArray, List.set_cons_zero, List.set_cons_succ]
   refine takeP 8 20 (v := ?_) rfl rfl (by kernel_rfl) (by kernel_rfl) (by kernel_rfl) (fun _ _ _ h => h) (by kernel_rfl) ?_ ?_
   rotate_left
   ·intro w; first | (go_simp; done) | (go_simp; with_reducible rfl)
   simp only [Act.put, List.setIfInBounds_toArray, List.set_cons_zero, List.set_cons_succ]
   refine wpAny_ready (rs := [4, 9]) (by kernel_rfl) (by simp) ?_
   refine AllReady.cons rfl (fun K hK => ?_) ?_
   go_simp
   refine hK _ _ ?_
   clear hK K
   refine takeP 5 17 (v := ?_) rfl rfl (by kernel_rfl) (by kernel_rfl) (by kernel_rfl) (fun _ _ _ h => h) (by kernel_rfl) ?_ ?_
   rotate_left
   ·intro w; first | (go_simp; done) | (go_simp; with_reducible rfl)
   simp only [Act.put, List.setIfInBounds_toArray, List.set_cons_zero, List.set_cons_succ]
   refine wpAny_ready (rs := [9]) (by kernel_rfl) (by simp) ?_
   refine AllReady.cons rfl (fun K hK => ?_) AllReady.nil
   go_simp
   refine hK _ _ ?_
   clear hK K
   refine takeP 10 22 (v := ?_) rfl rfl (by kernel_rfl) (by kernel_rfl) (by kernel_rfl) (fun _ _ _ h => h) (by kernel_rfl) ?_ ?_
   rotate_left
   ·intro w; first | (go_simp; done) | (go_simp; with_reducible rfl)
   simp only [Act.put, List.setIfInBounds_toArray, List.set_cons_zero, List.set_cons_succ]
   refine wpAny_ready (rs := [11]) (by kernel_rfl) (by simp) ?_
   refine AllReady.cons rfl (fun K hK => ?_) AllReady.nil
   go_simp
   refine hK _ _ ?_
   clear hK K
   refine wpAny_ready (rs := [12]) (by kernel_rfl) (by simp) ?_
   refine AllReady.cons rfl (fun K hK => ?_) AllReady.nil
   refine step_append_rdN _ rfl _ _ 61 rfl w.heap.size 112 i0 (.int .u64 0) 1 8 Tryz.slU64 hi0 hz0 hz1 hz2 rfl (by decide) _ F.length (ints .u64 F) rfl OO.out _ _ 2 _ (ints .u64 [p, q]) rfl RN.out (ints_one _ _) x63 xby XS.out ?_
   intro v' w6 ho6 hg6 _
   have O6 := aa (show OwnI w6 w.heap.size 112 .u64 v' (F ++ [p, q]) from by unfold OwnI; rw [List.length_append, ints_app]; exact ho6)
   have B6 := aa (grown_below OO.out hg6 BB.out XS.out)
   clear ho6 hg6
   refine hK _ _ ?_
   clear hK K
   refine takeP 13 3 (v := ?_) rfl rfl (by kernel_rfl) (by kernel_rfl) (by kernel_rfl) (fun _ _ _ h => h) (by kernel_rfl) ?_ ?_
   rotate_left
   ·intro w; first | (go_simp; done) | (go_simp; with_reducible rfl)
   simp only [Act.put, List.setIfInBounds_toArray, List.set_cons_zero, List.set_cons_succ]
   refine wpAny_done (by kernel_rfl) ?_ _
   rotate_left
   refine AllReady.cons rfl (fun K hK => ?_) ?_
   go_simp
   refine hK _ _ ?_
   clear hK K
   refine takeP 10 22 (v := ?_) rfl rfl (by kernel_rfl) (by kernel_rfl) (by kernel_rfl) (fun _ _ _ h => h) (by kernel_rfl) ?_ ?_
   rotate_left
   ·intro w; first | (go_simp; done) | (go_simp; with_reducible rfl)
   simp only [Act.put, List.setIfInBounds_toArray, List.set_cons_zero, List.set_cons_succ]
   refine wpAny_ready (rs := [4]) (by kernel_rfl) (by simp) ?_
   refine AllReady.cons rfl (fun K hK => ?_) AllReady.nil
   go_simp
   refine hK _ _ ?_
   clear hK K
   refine takeP 5 17 (v := ?_) rfl rfl (by kernel_rfl) (by kernel_rfl) (by kernel_rfl) (fun _ _ _ h => h) (by kernel_rfl) ?_ ?_
   rotate_left
   ·intro w; first | (go_simp; done) | (go_simp; with_reducible rfl)
   simp only [Act.put, List.setIfInBounds_toArray, List.set_cons_zero, List.set_cons_succ]
   refine wpAny_ready (rs := [11]) (by kernel_rfl) (by simp) ?_
   refine AllReady.cons rfl (fun K hK => ?_) AllReady.nil
   go_simp
   refine hK _ _ ?_
   clear hK K
   refine wpAny_ready (rs := [12]) (by kernel_rfl) (by simp) ?_
   refine AllReady.cons rfl (fun K hK => ?_) AllReady.nil
   refine step_append_rdN _ rfl _ _ 61 rfl w.heap.size 112 i0 (.int .u64 0) 1 8 Tryz.slU64 hi0 hz0 hz1 hz2 rfl (by decide) _ F.length (ints .u64 F) rfl OO.out _ _ 2 _ (ints .u64 [p, q]) rfl RN.out (ints_one _ _) x63 xby XS.out ?_
   intro v' w6 ho6 hg6 _
   have O6 := aa (show OwnI w6 w.heap.size 112 .u64 v' (F ++ [p, q]) from by unfold OwnI; rw [List.length_append, ints_app]; exact ho6)
   have B6 := aa (grown_below OO.out hg6 BB.out XS.out)
   clear ho6 hg6
   refine hK _ _ ?_
   clear hK K
   refine takeP 13 3 (v := ?_) rfl rfl (by kernel_rfl) (by kernel_rfl) (by kernel_rfl) (fun _ _ _ h => h) (by kernel_rfl) ?_ ?_
   rotate_left
   ·intro w; first | (go_simp; done) | (go_simp; with_reducible rfl)
   simp only [Act.put, List.setIfInBounds_toArray, List.set_cons_zero, List.set_cons_succ]
   refine wpAny_done (by kernel_rfl) ?_ _
   rotate_left
   exact AllReady.nil
   all_goals (
    go_wp2_with fail
    go_roundw
    case measure => first | (simp [intOf]; done) | (simp [intOf]; omega)
    case rel => exact ⟨i + 1, by go_num, by omega, ⟨by rw [HF.out]; exact O6.out⟩, B6⟩)
  ·have hie : i = l.length := by omega
   subst hie
   rw [List.take_length] at ho
   go_wp2_with fail
   go_ret
   exact ⟨_, rfl, ho.out, hb.out⟩
theorem add_pos0 (ad : Addr) (n : Nat) (hn : 0 < n) : ad.add n = ⟨ad.block, ad.off + n, none⟩ := by
 unfold Addr.add
 rw [if_neg (by omega)]
def H32 (d : List Int) : Prop := ∀ x ∈ d, 0 ≤ x ∧ x < 4294967296
def v32 : List Int → Nat
 | [] => 0
 | x :: d => x.toNat + 4294967296 * v32 d
def wh : List Int → List Int
 | x :: y :: r => (x + y * 4294967296) :: wh r
 | [x] => [x]
 | [] => []
theorem H32.at_ {d : List Int} (h : H32 d) (i : Nat) : 0 ≤ d.getD i 0 ∧ d.getD i 0 < 4294967296 := by
 rcases Nat.lt_or_ge i d.length with hi | hi
 ·rw [getD_at hi]; exact h _ (List.getElem_mem hi)
 ·rw [getD_out hi]; omega
theorem wh_u64 : ∀ {d : List Int}, H32 d → U64 (wh d)
 | [], _ => U64.nil
 | [x], h => U64.nil.cons (h x (by simp)).1 (by have := h x (by simp); omega)
 | x :: y :: r, h => by
   have hx := h x (by simp)
   have hy := h y (by simp)
   exact U64.cons (by omega) (by omega) (wh_u64 fun z hz => h z (by simp [hz]))
theorem wh_val : ∀ {d : List Int}, H32 d → val (wh d) = v32 d
 | [], _ => rfl
 | [x], _ => by simp [wh, val, v32]
 | x :: y :: r, h => by
   have hx := h x (by simp)
   have hy := h y (by simp)
   have ih := wh_val (d := r) fun z hz => h z (by simp [hz])
   simp only [wh, val, v32, ih]
   rw [show (x + y * 4294967296).toNat = x.toNat + 4294967296 * y.toNat by omega]
   omega
theorem wh_two : ∀ (k : Nat) (d : List Int), 2 * k + 1 < d.length → wh (d.take (2 * (k + 1))) = wh (d.take (2 * k)) ++ [d.getD (2 * k) 0 + d.getD (2 * k + 1) 0 * 4294967296]
 | 0, x :: y :: r, _ => by simp [wh]
 | k + 1, x :: y :: r, h => by
   have ih := wh_two k r (by simp at h; omega)
   rw [show 2 * (k + 1 + 1) = 2 * (k + 1) + 2 by omega, show 2 * (k + 1) = 2 * k + 2 by omega]
   simp only [List.take_succ_cons, wh, List.getD_cons_succ, List.cons_append]
   rw [show 2 * k + 2 = 2 * (k + 1) by omega, ih]
theorem wh_one : ∀ (k : Nat) (d : List Int), 2 * k + 1 = d.length → wh d = wh (d.take (2 * k)) ++ [d.getD (2 * k) 0]
 | 0, [x], _ => rfl
 | k + 1, x :: y :: r, h => by
   have ih := wh_one k r (by simp at h; omega)
   rw [show 2 * (k + 1) = 2 * k + 2 by omega]
   simp only [List.take_succ_cons, wh, List.getD_cons_succ, List.cons_append]
   rw [ih]
theorem wh_len : ∀ d : List Int, (wh d).length ≤ d.length
 | [] => by simp [wh]
 | [x] => by simp [wh]
 | x :: y :: r => by
   have := wh_len r
   simp only [wh, List.length_cons]; omega
theorem ref_Whole (A : Option Addr) (c : Nat) (d : List Int) (w : World) (h : RdI w .u64 A d) (hn : d.length ≤ c) (hb9 : d.length ≤ 1000000) (hd : H32 d) :
    Calls Tryz.prog 263 #[.slice A d.length c] w fun e w' => ∃ v, e = .returned v ∧ OwnI w' w.heap.size 112 .u64 v (limbs (v32 d)) ∧ Below w.heap.size w w' := by
 obtain ⟨i0, hi0, hz0, hz1, hz2⟩ := info_split Tryz.infU64
 have H := aa h
 have HD := aa hd
 clear h hd
 have HO0 := aa (show OwnI (w.alloc (.cells #[] 112)) w.heap.size 112 .u64 (.slice (some ⟨w.heap.size, 0, none⟩) 0 0) [] from World.ownsRow_lit w #[] 0 (ae _) (by unfold maxLen; omega) rfl)
 go_enter Tryz.func263, Tryz.ntmps263
 go_wp2_with fail
 go_loopw [3, 4] (fun v3 v4 wr => ∃ i k : Nat, v4 = .int .i64 i ∧ Hd (i = 2 * k) ∧ i ≤ d.length + 1 ∧ Hd (OwnI wr w.heap.size 112 .u64 v3 (wh (d.take i))) ∧ Hd (Below w.heap.size w wr)) (fun _ v _ => d.length + 2 - (intOf v).toNat)
 case atStart => exact ⟨0, 0, rfl, ⟨rfl⟩, by omega, HO0, ⟨(ag _ _).alloc (ae _) _⟩⟩
 case round =>
  obtain ⟨i, k, rfl, hik, hi, ho, hb⟩ := hrel
  by_cases hlt : i < d.length
  ·obtain ⟨ad, x, rfl, _, hx, hcx⟩ := (H.out.up hb.out).get hlt
   have i2 : (i : Int) < d.length := by omega
   have i3 : (0 : Int) ≤ i := by omega
   have hwl : (wh (d.take i)).length ≤ 1000000 := by
    have := wh_len (d.take i)
    have := List.length_take_le i d
    have : (d.take i).length ≤ d.length := by rw [List.length_take]; omega
    omega
   by_cases h1 : i + 1 < d.length
   ·obtain ⟨ad', y, hA, _, hy, hcy⟩ := (H.out.up hb.out).get (i := i + 1) h1
    injection hA with hA
    subst hA
    have i4 : (i : Int) + 1 < d.length := by omega
    have i5 : (0 : Int) ≤ (i : Int) + 1 := by omega
    have i6 : ((i : Int) + 1).toNat = i + 1 := by omega
    rw [add_pos0 ad (i + 1) (by omega)] at hcy
    obtain ⟨Y, r1⟩ : ∃ Y, IntKind.u64.wrap (y * 4294967296) = Y := ⟨_, rfl⟩
    obtain ⟨Z, r2⟩ : ∃ Z, IntKind.u64.wrap (x + Y) = Z := ⟨_, rfl⟩
    have HW : Hd (wh (d.take (i + 2)) = wh (d.take i) ++ [Z]) := ⟨by
     have hx0 := HD.out.at_ i
     have hy0 := HD.out.at_ (i + 1)
     rw [hx.out] at hx0
     rw [hy.out] at hy0
     have e1 : Y = y * 4294967296 := by rw [← r1]; simp [IntKind.wrap, IntKind.bits, IntKind.signed]; omega
     have e2 : Z = x + Y := by rw [← r2]; simp [IntKind.wrap, IntKind.bits, IntKind.signed]; omega
     have := wh_two k d (by have := hik.out; omega)
     rw [show 2 * (k + 1) = i + 2 by have := hik.out; omega, show 2 * k = i by have := hik.out; omega, hx.out, hy.out] at this
     rw [this, e2, e1]⟩
    obtain ⟨F, hF⟩ : ∃ F, wh (d.take i) = F := ⟨_, rfl⟩
    rw [hF] at ho HW hwl
    clear hF hx hy
    have OO := aa (ho.out.al (.cells #[.int .u64 Z] 112))
    have RN := aa (Rd.new_ wr #[.int .u64 Z] 112 1 1 rfl)
    have BB := aa (hb.out.alloc hb.out.size (.cells #[.int .u64 Z] 112))
    have XS := aa BB.out.size
    have x63 : F.length + 1 ≤ maxLen := by unfold maxLen; omega
    have xby : (F.length + 1) * 8 ≤ 140737488355328 := by omega
    go_wp2_with (at_builtin; refine wpList_append_rd _ rfl _ _ 61 rfl w.heap.size 112 i0 (.int .u64 0) 1 8 Tryz.slU64 hi0 hz0 hz1 hz2 rfl (by decide) _ F.length (ints .u64 F) rfl OO.out _ _ 1 _ (ints .u64 [Z]) rfl RN.out (ints_one _ _) x63 xby XS.out ?_)
    intro v' w6 ho6 hg6 _
    have O6 := aa (show OwnI w6 w.heap.size 112 .u64 v' (F ++ [Z]) from by unfold OwnI; rw [List.length_append, ints_app]; exact ho6)
    have B6 := aa (grown_below OO.out hg6 BB.out XS.out)
    clear ho6 hg6
    go_wp2_with fail
    go_roundw
    case measure => first | (simp [intOf]; done) | (simp [intOf]; omega)
    case rel => exact ⟨i + 2, k + 1, by go_num, ⟨by have := hik.out; omega⟩, by omega, ⟨by rw [HW.out]; exact O6.out⟩, B6⟩
   ·have i4 : ¬ (i : Int) + 1 < d.length := by omega
    have HW : Hd (wh (d.take (i + 2)) = wh (d.take i) ++ [x]) := ⟨by
     have := wh_one k d (by have := hik.out; omega)
     rw [show 2 * k = i by have := hik.out; omega, hx.out] at this
     rw [List.take_of_length_le (by omega : d.length ≤ i + 2), this]⟩
    obtain ⟨F, hF⟩ : ∃ F, wh (d.take i) = F := ⟨_, rfl⟩
    rw [hF] at ho HW hwl
    clear hF hx h1
    have OO := aa (ho.out.al (.cells #[.int .u64 x] 112))
    have RN := aa (Rd.new_ wr #[.int .u64 x] 112 1 1 rfl)
    have BB := aa (hb.out.alloc hb.out.size (.cells #[.int .u64 x] 112))
    have XS := aa BB.out.size
    have x63 : F.length + 1 ≤ maxLen := by unfold maxLen; omega
    have xby : (F.length + 1) * 8 ≤ 140737488355328 := by omega
    go_wp2_with (at_builtin; refine wpList_append_rd _ rfl _ _ 61 rfl w.heap.size 112 i0 (.int .u64 0) 1 8 Tryz.slU64 hi0 hz0 hz1 hz2 rfl (by decide) _ F.length (ints .u64 F) rfl OO.out _ _ 1 _ (ints .u64 [x]) rfl RN.out (ints_one _ _) x63 xby XS.out ?_)
    intro v' w6 ho6 hg6 _
    have O6 := aa (show OwnI w6 w.heap.size 112 .u64 v' (F ++ [x]) from by unfold OwnI; rw [List.length_append, ints_app]; exact ho6)
    have B6 := aa (grown_below OO.out hg6 BB.out XS.out)
    clear ho6 hg6
    go_wp2_with fail
    go_roundw
    case measure => first | (simp [intOf]; done) | (simp [intOf]; omega)
    case rel => exact ⟨i + 2, k + 1, by go_num, ⟨by have := hik.out; omega⟩, by omega, ⟨by rw [HW.out]; exact O6.out⟩, B6⟩
  ·have HE : Hd (trimL (wh (d.take i)) = limbs (v32 d)) := ⟨by
     rw [List.take_of_length_le (by omega), trim_limbs (wh_u64 HD.out), wh_val HD.out]⟩
   have hwl : (wh (d.take i)).length ≤ 1000000 := by
    have := wh_len (d.take i)
    have : (d.take i).length ≤ d.length := by rw [List.length_take]; omega
    omega
   obtain ⟨F, hF⟩ : ∃ F, wh (d.take i) = F := ⟨_, rfl⟩
   rw [hF] at ho HE hwl
   clear hF
   obtain ⟨A', c', rfl, hc', _, hr⟩ := ho.out.reads
   have CT := aa (ref_Trim A' c' F wr hr hc' (by omega))
   clear hr ho
   go_wp2_with fail
   refine CT.out.mono ?_
   rintro e w4 ⟨v, rfl, ho4, hb4⟩
   have O4 := aa (ho4.low hb.out.size)
   have B4 := aa (hb.out.trans (hb4.mono hb.out.size))
   clear ho4 hb4
   go_wp2_with fail
   go_ret
   exact ⟨_, rfl, by rw [← HE.out]; exact O4.out, B4.out⟩
theorem v32_app (l m : List Int) : v32 (l ++ m) = v32 l + 4294967296 ^ l.length * v32 m := by
 induction l with
 | nil => simp [v32]
 | cons x l ih => simp only [List.cons_append, v32, ih, List.length_cons, Nat.pow_succ]; rw [Nat.mul_add, Nat.mul_comm (4294967296 ^ l.length) 4294967296, Nat.mul_assoc]; omega
theorem v32_take_succ (l : List Int) (i : Nat) : v32 (l.take (i + 1)) = v32 (l.take i) + 4294967296 ^ i * (l.getD i 0).toNat := by
 rcases Nat.lt_or_ge i l.length with h | h
 ·rw [take_snoc h, v32_app, List.length_take, Nat.min_eq_left (by omega)]; simp [v32]
 ·rw [List.take_of_length_le (by omega), List.take_of_length_le h, getD_out h]; simp
theorem digs_h32 {l : List Int} (h : U64 l) : H32 (digs l) := by
 intro x hx
 obtain ⟨y, hy, hx⟩ := List.mem_flatMap.1 hx
 have := h y hy
 simp at hx
 rcases hx with rfl | rfl <;> omega
theorem digs_val {l : List Int} (h : U64 l) : v32 (digs l) = val l := by
 induction l with
 | nil => rfl
 | cons x l ih =>
   have hx := h x (by simp)
   have ih := ih fun z hz => h z (by simp [hz])
   unfold digs at ih
   simp only [digs, List.flatMap_cons, List.cons_append, List.nil_append, v32, val, ih]
   omega
theorem H32.app {l m : List Int} (h : H32 l) (h' : H32 m) : H32 (l ++ m) := fun x hx => by
 rcases List.mem_append.1 hx with hx | hx
 ·exact h x hx
 ·exact h' x hx
structure Rnd (x y cy S1 S P C : Int) : Prop where
 s1 : S1 = x + y
 s : S = x + y + cy
 p : P = (x + y + cy) % 4294967296
 c : C = (x + y + cy) / 4294967296
theorem Rnd.mk' {x y cy S1 S P C : Int} (hx : 0 ≤ x ∧ x < 4294967296) (hy : 0 ≤ y ∧ y < 4294967296) (hc : 0 ≤ cy ∧ cy ≤ 4294967296) (r1 : IntKind.u64.wrap (x + y) = S1) (r2 : IntKind.u64.wrap (S1 + cy) = S) (r3 : S.tmod 4294967296 = P) (r4 : IntKind.u64.wrap (S.tdiv 4294967296) = C) : Rnd x y cy S1 S P C := by
 have e1 : S1 = x + y := by rw [← r1]; simp [IntKind.wrap, IntKind.bits, IntKind.signed]; omega
 have e2 : S = x + y + cy := by rw [← r2, e1]; simp [IntKind.wrap, IntKind.bits, IntKind.signed]; omega
 refine ⟨e1, e2, ?_, ?_⟩
 ·rw [← r3, e2, Int.tmod_eq_emod_of_nonneg (by omega)]
 ·rw [← r4, e2, Int.tdiv_eq_ediv_of_nonneg (by omega)]
  simp [IntKind.wrap, IntKind.bits, IntKind.signed]
  omega
theorem ref_Add (A B : Option Addr) (c d : Nat) (l m : List Int) (w : World) (h : RdI w .u64 A l) (hn : l.length ≤ c) (h9 : l.length ≤ 100000) (h' : RdI w .u64 B m) (hn' : m.length ≤ d) (h9' : m.length ≤ 100000) (hu : U64 l) (hu' : U64 m) :
    Calls Tryz.prog 258 #[.slice A l.length c, .slice B m.length d] w fun e w' => ∃ v, e = .returned v ∧ OwnI w' w.heap.size 112 .u64 v (limbs (val l + val m)) ∧ Below w.heap.size w w' := by
 obtain ⟨i0, hi0, hz0, hz1, hz2⟩ := info_split Tryz.infU64
 have D1 := aa (ref_Digits A c l w h hn (by omega) hu)
 have D2 := aa (fun W hW => ref_Digits B d m W (h'.up hW) hn' (by omega) hu')
 have HH : Hd (H32 (digs l) ∧ H32 (digs m)) := ⟨digs_h32 hu, digs_h32 hu'⟩
 have HVV : Hd (v32 (digs l) = val l ∧ v32 (digs m) = val m) := ⟨digs_val hu, digs_val hu'⟩
 have hX1 := digs_len l
 have hY1 := digs_len m
 obtain ⟨X, hX⟩ : ∃ X, digs l = X := ⟨_, rfl⟩
 obtain ⟨Y, hY⟩ : ∃ Y, digs m = Y := ⟨_, rfl⟩
 rw [hX] at D1 HH HVV hX1
 rw [hY] at D2 HH HVV hY1
 have hX9 : X.length ≤ 200000 := by omega
 have hY9 : Y.length ≤ 200000 := by omega
 clear h h' hu hu' hX hY hX1 hY1
 go_enter Tryz.func258, Tryz.ntmps258
 go_wp2_with fail
 refine D1.out.mono ?_
 rintro e w1 ⟨v1, rfl, ho1, hb1⟩
 obtain ⟨A1, c1, rfl, hc1, _, hr1⟩ := ho1.reads
 have HX := aa hr1
 have D3 := aa (D2.out w1 hb1)
 have B1 := aa hb1
 clear ho1 hr1 hb1 D1 D2
 go_wp2_with fail
 refine D3.out.mono ?_
 rintro e w2 ⟨v2, rfl, ho2, hb2⟩
 obtain ⟨A2, c2, rfl, hc2, _, hr2⟩ := ho2.reads
 have HY := aa hr2
 have BX := aa hb2
 have BX2 := aa (B1.out.trans (hb2.mono B1.out.size))
 clear ho2 hr2 hb2 D3
 have HO0 := aa (show OwnI (w2.alloc (.cells #[] 112)) w2.heap.size 112 .u64 (.slice (some ⟨w2.heap.size, 0, none⟩) 0 0) [] from World.ownsRow_lit w2 #[] 0 (ae _) (by unfold maxLen; omega) rfl)
 obtain ⟨N, hN⟩ : ∃ N, N = max X.length Y.length := ⟨_, rfl⟩
 have hXN : X.length ≤ N := by omega
 have hYN : Y.length ≤ N := by omega
 have hN9 : N ≤ 200000 := by omega
 have HNN : Hd (N ≤ X.length ∨ N ≤ Y.length) := ⟨by omega⟩
 clear hN
 go_wp2_with fail
 go_loopw [7, 8, 9] (fun v7 v8 v9 wr => ∃ (i : Nat) (F : List Int) (cy : Int), v9 = .int .i64 i ∧ v8 = .int .u64 cy ∧ i ≤ N + 1 ∧ F.length = i ∧ Hd (OwnI wr w2.heap.size 112 .u64 v7 F) ∧ Hd (H32 F) ∧ Hd (0 ≤ cy ∧ cy ≤ 1) ∧ Hd (N < i → cy = 0) ∧
  Hd (v32 F + 4294967296 ^ i * cy.toNat = v32 (X.take i) + v32 (Y.take i)) ∧ Hd (Below w2.heap.size w2 wr)) (fun _ _ v _ => N + 2 - (intOf v).toNat)
 case atStart => exact ⟨0, [], 0, rfl, rfl, by omega, rfl, HO0, ⟨fun x h => by cases h⟩, ⟨by omega⟩, ⟨fun _ => rfl⟩, ⟨by simp [v32]⟩, ⟨(ag _ _).alloc (ae _) _⟩⟩
 case round =>
  obtain ⟨i, F, cy, rfl, rfl, hi, hFl, ho, hF, hcy, hz, hv, hb⟩ := hrel
  have i3 : (0 : Int) ≤ i := by omega
  by_cases h1 : i < X.length
  ·have i1 : (i : Int) < X.length := by omega
   have hiN : i ≤ N := by omega
   obtain ⟨x, hx⟩ : ∃ x, X.getD i 0 = x := ⟨_, rfl⟩
   obtain ⟨y, hy⟩ : ∃ y, Y.getD i 0 = y := ⟨_, rfl⟩
   have K1 := aa (ref_at A1 c1 X (i : Int) i rfl wr (HX.out.up (BX.out.trans (hb.out.mono BX.out.size))) hc1 (by omega) (by omega))
   have K2 := aa (ref_at A2 c2 Y (i : Int) i rfl wr (HY.out.up hb.out) hc2 (by omega) (by omega))
   rw [hx] at K1
   rw [hy] at K2
   obtain ⟨S1, r1⟩ : ∃ S1, IntKind.u64.wrap (x + y) = S1 := ⟨_, rfl⟩
   obtain ⟨S, r2⟩ : ∃ S, IntKind.u64.wrap (S1 + cy) = S := ⟨_, rfl⟩
   obtain ⟨P, r3⟩ : ∃ P, S.tmod 4294967296 = P := ⟨_, rfl⟩
   obtain ⟨C, r4⟩ : ∃ C, IntKind.u64.wrap (S.tdiv 4294967296) = C := ⟨_, rfl⟩
   have hxb := HH.out.1.at_ i
   have hyb := HH.out.2.at_ i
   rw [hx] at hxb
   rw [hy] at hyb
   have RR := aa (Rnd.mk' hxb hyb ⟨hcy.out.1, by have := hcy.out.2; omega⟩ r1 r2 r3 r4)
   have HXB := aa (af hxb hyb)
   have HV : Hd (v32 (F ++ [P]) + 4294967296 ^ (i + 1) * C.toNat = v32 (X.take (i + 1)) + v32 (Y.take (i + 1))) := ⟨by
    have e := hv.out
    have b1 := hcy.out
    rw [v32_app, v32_take_succ, v32_take_succ, hx, hy, hFl, Nat.pow_succ]
    have q1 := RR.out.p
    have q2 := RR.out.c
    generalize 4294967296 ^ i = B at e
    have d : P.toNat + 4294967296 * C.toNat = x.toNat + y.toNat + cy.toNat := by omega
    simp only [v32, Nat.mul_zero, Nat.add_zero]
    have e3 : B * P.toNat + B * 4294967296 * C.toNat = B * x.toNat + B * y.toNat + B * cy.toNat := by
     rw [Nat.mul_assoc, ← Nat.mul_add, d, Nat.mul_add, Nat.mul_add]
    omega⟩
   have HC : Hd (0 ≤ C ∧ C ≤ 1) := ⟨by have := RR.out.c; have := hcy.out; omega⟩
   have HZ : Hd (N < i + 1 → C = 0) := ⟨fun hh => by
    have e1 : x = 0 := by rw [← hx]; exact getD_out (by omega)
    have e2 : y = 0 := by rw [← hy]; exact getD_out (by omega)
    have := RR.out.c; have := hcy.out; omega⟩
   have HF : Hd (H32 (F ++ [P])) := ⟨hF.out.app fun z hz => by rw [List.mem_singleton.1 hz]; have := RR.out.p; omega⟩
   clear hx hy hxb hyb
   have OO := aa (ho.out.al (.cells #[.int .u64 P] 112))
   have RN := aa (Rd.new_ wr #[.int .u64 P] 112 1 1 rfl)
   have BB := aa (hb.out.alloc hb.out.size (.cells #[.int .u64 P] 112))
   have XS := aa BB.out.size
   have x63 : F.length + 1 ≤ maxLen := by unfold maxLen; omega
   have xby : (F.length + 1) * 8 ≤ 140737488355328 := by omega
   have hFl2 : (F ++ [P]).length = i + 1 := by rw [List.length_append, hFl]; rfl
   have HFL := aa hFl
   have HFL2 := aa hFl2
   clear hFl hFl2
   go_wp2_with fail
   refine K1.out.mono ?_
   rintro e w' ⟨rfl, rfl⟩
   go_wp2_with fail
   refine K2.out.mono ?_
   rintro e w' ⟨rfl, rfl⟩
   go_wp2_with (at_builtin; refine wpList_append_rd _ rfl _ _ 61 rfl w2.heap.size 112 i0 (.int .u64 0) 1 8 Tryz.slU64 hi0 hz0 hz1 hz2 rfl (by decide) _ F.length (ints .u64 F) rfl OO.out _ _ 1 _ (ints .u64 [P]) rfl RN.out (ints_one _ _) x63 xby XS.out ?_)
   intro v' w6 ho6 hg6 _
   have O6 := aa (show OwnI w6 w2.heap.size 112 .u64 v' (F ++ [P]) from by unfold OwnI; rw [List.length_append, ints_app]; exact ho6)
   have B6 := aa (grown_below OO.out hg6 BB.out XS.out)
   clear ho6 hg6
   go_wp2_with fail
   go_roundw
   case measure => first | (simp [intOf]; done) | (simp [intOf]; omega)
   case rel => exact ⟨i + 1, F ++ [P], C, by go_num, rfl, by omega, HFL2.out, O6, HF, HC, HZ, HV, B6⟩
  ·have i1 : ¬ (i : Int) < X.length := by omega
   by_cases h2 : i < Y.length
   ·have i2 : (i : Int) < Y.length := by omega
    have hiN : i ≤ N := by omega
    obtain ⟨x, hx⟩ : ∃ x, X.getD i 0 = x := ⟨_, rfl⟩
    obtain ⟨y, hy⟩ : ∃ y, Y.getD i 0 = y := ⟨_, rfl⟩
    have K1 := aa (ref_at A1 c1 X (i : Int) i rfl wr (HX.out.up (BX.out.trans (hb.out.mono BX.out.size))) hc1 (by omega) (by omega))
    have K2 := aa (ref_at A2 c2 Y (i : Int) i rfl wr (HY.out.up hb.out) hc2 (by omega) (by omega))
    rw [hx] at K1
    rw [hy] at K2
    obtain ⟨S1, r1⟩ : ∃ S1, IntKind.u64.wrap (x + y) = S1 := ⟨_, rfl⟩
    obtain ⟨S, r2⟩ : ∃ S, IntKind.u64.wrap (S1 + cy) = S := ⟨_, rfl⟩
    obtain ⟨P, r3⟩ : ∃ P, S.tmod 4294967296 = P := ⟨_, rfl⟩
    obtain ⟨C, r4⟩ : ∃ C, IntKind.u64.wrap (S.tdiv 4294967296) = C := ⟨_, rfl⟩
    have hxb := HH.out.1.at_ i
    have hyb := HH.out.2.at_ i
    rw [hx] at hxb
    rw [hy] at hyb
    have RR := aa (Rnd.mk' hxb hyb ⟨hcy.out.1, by have := hcy.out.2; omega⟩ r1 r2 r3 r4)
    have HXB := aa (af hxb hyb)
    have HV : Hd (v32 (F ++ [P]) + 4294967296 ^ (i + 1) * C.toNat = v32 (X.take (i + 1)) + v32 (Y.take (i + 1))) := ⟨by
     have e := hv.out
     have b1 := hcy.out
     rw [v32_app, v32_take_succ, v32_take_succ, hx, hy, hFl, Nat.pow_succ]
     have q1 := RR.out.p
     have q2 := RR.out.c
     generalize 4294967296 ^ i = B at e
     have d : P.toNat + 4294967296 * C.toNat = x.toNat + y.toNat + cy.toNat := by omega
     simp only [v32, Nat.mul_zero, Nat.add_zero]
     have e3 : B * P.toNat + B * 4294967296 * C.toNat = B * x.toNat + B * y.toNat + B * cy.toNat := by
      rw [Nat.mul_assoc, ← Nat.mul_add, d, Nat.mul_add, Nat.mul_add]
     omega⟩
    have HC : Hd (0 ≤ C ∧ C ≤ 1) := ⟨by have := RR.out.c; have := hcy.out; omega⟩
    have HZ : Hd (N < i + 1 → C = 0) := ⟨fun hh => by
     have e1 : x = 0 := by rw [← hx]; exact getD_out (by omega)
     have e2 : y = 0 := by rw [← hy]; exact getD_out (by omega)
     have := RR.out.c; have := hcy.out; omega⟩
    have HF : Hd (H32 (F ++ [P])) := ⟨hF.out.app fun z hz => by rw [List.mem_singleton.1 hz]; have := RR.out.p; omega⟩
    clear hx hy hxb hyb
    have OO := aa (ho.out.al (.cells #[.int .u64 P] 112))
    have RN := aa (Rd.new_ wr #[.int .u64 P] 112 1 1 rfl)
    have BB := aa (hb.out.alloc hb.out.size (.cells #[.int .u64 P] 112))
    have XS := aa BB.out.size
    have x63 : F.length + 1 ≤ maxLen := by unfold maxLen; omega
    have xby : (F.length + 1) * 8 ≤ 140737488355328 := by omega
    have hFl2 : (F ++ [P]).length = i + 1 := by rw [List.length_append, hFl]; rfl
    have HFL := aa hFl
    have HFL2 := aa hFl2
    clear hFl hFl2
    go_wp2_with fail
    refine K1.out.mono ?_
    rintro e w' ⟨rfl, rfl⟩
    go_wp2_with fail
    refine K2.out.mono ?_
    rintro e w' ⟨rfl, rfl⟩
    go_wp2_with (at_builtin; refine wpList_append_rd _ rfl _ _ 61 rfl w2.heap.size 112 i0 (.int .u64 0) 1 8 Tryz.slU64 hi0 hz0 hz1 hz2 rfl (by decide) _ F.length (ints .u64 F) rfl OO.out _ _ 1 _ (ints .u64 [P]) rfl RN.out (ints_one _ _) x63 xby XS.out ?_)
    intro v' w6 ho6 hg6 _
    have O6 := aa (show OwnI w6 w2.heap.size 112 .u64 v' (F ++ [P]) from by unfold OwnI; rw [List.length_append, ints_app]; exact ho6)
    have B6 := aa (grown_below OO.out hg6 BB.out XS.out)
    clear ho6 hg6
    go_wp2_with fail
    go_roundw
    case measure => first | (simp [intOf]; done) | (simp [intOf]; omega)
    case rel => exact ⟨i + 1, F ++ [P], C, by go_num, rfl, by omega, HFL2.out, O6, HF, HC, HZ, HV, B6⟩
   ·have i2 : ¬ (i : Int) < Y.length := by omega
    by_cases h3 : 0 < cy
    ·have hiN : i ≤ N := by
       rcases Nat.lt_or_ge N i with hh | hh
       ·have := hz.out hh; omega
       ·exact hh
     obtain ⟨x, hx⟩ : ∃ x, X.getD i 0 = x := ⟨_, rfl⟩
     obtain ⟨y, hy⟩ : ∃ y, Y.getD i 0 = y := ⟨_, rfl⟩
     have K1 := aa (ref_at A1 c1 X (i : Int) i rfl wr (HX.out.up (BX.out.trans (hb.out.mono BX.out.size))) hc1 (by omega) (by omega))
     have K2 := aa (ref_at A2 c2 Y (i : Int) i rfl wr (HY.out.up hb.out) hc2 (by omega) (by omega))
     rw [hx] at K1
     rw [hy] at K2
     obtain ⟨S1, r1⟩ : ∃ S1, IntKind.u64.wrap (x + y) = S1 := ⟨_, rfl⟩
     obtain ⟨S, r2⟩ : ∃ S, IntKind.u64.wrap (S1 + cy) = S := ⟨_, rfl⟩
     obtain ⟨P, r3⟩ : ∃ P, S.tmod 4294967296 = P := ⟨_, rfl⟩
     obtain ⟨C, r4⟩ : ∃ C, IntKind.u64.wrap (S.tdiv 4294967296) = C := ⟨_, rfl⟩
     have hxb := HH.out.1.at_ i
     have hyb := HH.out.2.at_ i
     rw [hx] at hxb
     rw [hy] at hyb
     have RR := aa (Rnd.mk' hxb hyb ⟨hcy.out.1, by have := hcy.out.2; omega⟩ r1 r2 r3 r4)
     have HXB := aa (af hxb hyb)
     have HV : Hd (v32 (F ++ [P]) + 4294967296 ^ (i + 1) * C.toNat = v32 (X.take (i + 1)) + v32 (Y.take (i + 1))) := ⟨by
      have e := hv.out
      have b1 := hcy.out
      rw [v32_app, v32_take_succ, v32_take_succ, hx, hy, hFl, Nat.pow_succ]
      have q1 := RR.out.p
      have q2 := RR.out.c
      generalize 4294967296 ^ i = B at e
      have d : P.toNat + 4294967296 * C.toNat = x.toNat + y.toNat + cy.toNat := by omega
      simp only [v32, Nat.mul_zero, Nat.add_zero]
      have e3 : B * P.toNat + B * 4294967296 * C.toNat = B * x.toNat + B * y.toNat + B * cy.toNat := by
       rw [Nat.mul_assoc, ← Nat.mul_add, d, Nat.mul_add, Nat.mul_add]
      omega⟩
     have HC : Hd (0 ≤ C ∧ C ≤ 1) := ⟨by have := RR.out.c; have := hcy.out; omega⟩
     have HZ : Hd (N < i + 1 → C = 0) := ⟨fun hh => by
      have e1 : x = 0 := by rw [← hx]; exact getD_out (by omega)
      have e2 : y = 0 := by rw [← hy]; exact getD_out (by omega)
      have := RR.out.c; have := hcy.out; omega⟩
     have HF : Hd (H32 (F ++ [P])) := ⟨hF.out.app fun z hz => by rw [List.mem_singleton.1 hz]; have := RR.out.p; omega⟩
     clear hx hy hxb hyb
     have OO := aa (ho.out.al (.cells #[.int .u64 P] 112))
     have RN := aa (Rd.new_ wr #[.int .u64 P] 112 1 1 rfl)
     have BB := aa (hb.out.alloc hb.out.size (.cells #[.int .u64 P] 112))
     have XS := aa BB.out.size
     have x63 : F.length + 1 ≤ maxLen := by unfold maxLen; omega
     have xby : (F.length + 1) * 8 ≤ 140737488355328 := by omega
     have hFl2 : (F ++ [P]).length = i + 1 := by rw [List.length_append, hFl]; rfl
     have HFL := aa hFl
     have HFL2 := aa hFl2
     clear hFl hFl2
     go_wp2_with fail
     refine K1.out.mono ?_
     rintro e w' ⟨rfl, rfl⟩
     go_wp2_with fail
     refine K2.out.mono ?_
     rintro e w' ⟨rfl, rfl⟩
     go_wp2_with (at_builtin; refine wpList_append_rd _ rfl _ _ 61 rfl w2.heap.size 112 i0 (.int .u64 0) 1 8 Tryz.slU64 hi0 hz0 hz1 hz2 rfl (by decide) _ F.length (ints .u64 F) rfl OO.out _ _ 1 _ (ints .u64 [P]) rfl RN.out (ints_one _ _) x63 xby XS.out ?_)
     intro v' w6 ho6 hg6 _
     have O6 := aa (show OwnI w6 w2.heap.size 112 .u64 v' (F ++ [P]) from by unfold OwnI; rw [List.length_append, ints_app]; exact ho6)
     have B6 := aa (grown_below OO.out hg6 BB.out XS.out)
     clear ho6 hg6
     go_wp2_with fail
     go_roundw
     case measure => first | (simp [intOf]; done) | (simp [intOf]; omega)
     case rel => exact ⟨i + 1, F ++ [P], C, by go_num, rfl, by omega, HFL2.out, O6, HF, HC, HZ, HV, B6⟩
    ·have HE : Hd (v32 F = val l + val m) := ⟨by
       have e := hv.out
       have : cy = 0 := by have := hcy.out; omega
       rw [this, List.take_of_length_le (by omega), List.take_of_length_le (by omega), HVV.out.1, HVV.out.2] at e
       simpa using e⟩
     obtain ⟨A', c', rfl, hc', _, hr⟩ := ho.out.reads
     have CW := aa (ref_Whole A' c' F wr hr hc' (by omega) hF.out)
     rw [HE.out] at CW
     clear hr ho hFl
     go_wp2_with fail
     refine CW.out.mono ?_
     rintro e w4 ⟨v, rfl, ho4, hb4⟩
     have B0 := aa (BX2.out.trans (hb.out.mono BX2.out.size))
     have O4 := aa (ho4.low B0.out.size)
     have B4 := aa (B0.out.trans (hb4.mono B0.out.size))
     clear ho4 hb4
     go_wp2_with fail
     go_ret
     exact ⟨_, rfl, O4.out, B4.out⟩
end Go.Proofs.YtgjkgkgieeoalaaGreat
