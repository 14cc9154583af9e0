/- Parts of the proof, joined: each theorem says what it shows. -/
import Derived.Test.YtgjkgkgieeoalaaGreatE01
import Derived.Laws.ResultCell
import Derived.Laws.Rows
import Derived.RegionCalls
import Derived.Deep.RegionWith
import Derived.Deep.RegionHeld3
import Derived.Deep.RegionLaw
import Derived.Laws.Externs
import Derived.WalkMore
set_option linter.unusedVariables false
set_option linter.unusedSimpArgs false
set_option maxHeartbeats 24000000
set_option maxRecDepth 100000
namespace Go.Proofs.YtgjkgkgieeoalaaGreat
open Go.RowKit
theorem drop_at {l : List Int} {i : Nat} (h : i < l.length) : l.drop i = l.getD i 0 :: l.drop (i + 1) := by
 rw [List.drop_eq_getElem_cons h, getD_at h]
theorem add_win (g off j : Nat) : ((⟨g, off, none⟩ : Addr).add j) = ⟨g, off + j, none⟩ := by
 unfold Addr.add; split
 ·subst_vars; rfl
 ·rfl
theorem far1 {w : World} {p a : Addr} {v : Value} {b : Nat} (hb : a.block = b) (h : p.block ≠ b) : (w.setCell p v).cell? a = w.cell? a := World.cell?_setCell_far w p a v (by rw [hb]; exact h)
theorem cell_up {w w' : World} {a : Addr} {v : Value} (h : w.cell? a = some v) (hb : Below w.heap.size w w') : w'.cell? a = some v := (hb.cell (World.block_lt_of_cell? w a h)).trans h
theorem wp_gen {P : Program} {c : Code} {Q : Exit → Act → World → Prop} {a : Act} {w : World} (R : World → Prop) (h : R w) (k : ∀ W, Hd (R W) → c.wp P Q a W) : c.wp P Q a w := k w ⟨h⟩
theorem Bk.set3 {w : World} {g : Nat} {t : TypeId} {a b c : Value} (h : Bk w g t #[a, b, c]) (x y z : Value) : Bk (((w.setCell ⟨g, 0, none⟩ x).setCell ⟨g, 1, none⟩ y).setCell ⟨g, 2, none⟩ z) g t #[x, y, z] := ((h.set_ 0 x).set_ 1 y).set_ 2 z
theorem sal {w0 w : World} {a : Addr} {v : Value} (h : Hd (Below w0.heap.size w0 w) ∧ w.cell? a = some v) (o : Obj) : Hd (Below w0.heap.size w0 (w.alloc o)) ∧ (w.alloc o).cell? a = some v :=
 ⟨⟨h.1.out.alloc h.1.out.size o⟩, cell_up h.2 ((ag _ _).alloc (ae _) _)⟩
theorem Bk.one {w : World} {g : Nat} {t : TypeId} {v : Value} (h : Bk w g t #[v]) : w.cell? ⟨g, 0, none⟩ = some v := by rw [h.cell]; rfl
theorem set_grown (w : World) (p : Addr) (u : Value) : w.grownBy (w.setCell p u) (some p.block) :=
 ⟨rfl, rfl, rfl, by simp, fun k _ hne => Below.heap_setCell w p u k (fun e => hne (by rw [e]))⟩
theorem Bk.three {w : World} {g : Nat} {t : TypeId} {a b c : Value} (h : Bk w g t #[a, b, c]) : w.cell? ⟨g, 0, none⟩ = some a ∧ w.cell? ⟨g, 1, none⟩ = some b ∧ w.cell? ⟨g, 2, none⟩ = some c := by
 refine ⟨?_, ?_, ?_⟩ <;> (rw [h.cell]; rfl)
structure Blw (B : Nat) (w w' : World) : Prop where
 lo : Below B w w'
 dr : w.drawn ≤ w'.drawn
section
variable {B B' : Nat} {a b c : World}
theorem Blw.refl (B : Nat) (w : World) : Blw B w w := ⟨.refl _ _, ae _⟩
theorem Blw.trans (h : Blw B a b) (k : Blw B b c) : Blw B a c := ⟨h.lo.trans k.lo, ah h.dr k.dr⟩
theorem Blw.mono (h : Blw B a b) (hb : B' ≤ B) : Blw B' a b := ⟨h.lo.mono hb, h.dr⟩
theorem Blw.alloc (h : Blw B a b) (hB : B ≤ b.heap.size) (o : Obj) : Blw B a (b.alloc o) := ⟨h.lo.alloc hB o, h.dr⟩
theorem Blw.drew (h : Blw B a b) : Blw B a b.drew := ⟨h.lo.drew, Nat.le_succ_of_le h.dr⟩
theorem Blw.dn (h : Blw B a b) (n : Nat) : Blw B a (b.drewN n) := ⟨Below.dn h.lo n, ah h.dr (Nat.le_add_right _ _)⟩
theorem Blw.setCell (h : Blw B a b) {p : Addr} (hp : B ≤ p.block) (u : Value) : Blw B a (b.setCell p u) := ⟨h.lo.setCell hp u, h.dr⟩
theorem Blw.size (h : Blw B a b) : a.heap.size ≤ b.heap.size := h.lo.size
theorem Blw.cell (h : Blw B a b) {p : Addr} (hp : p.block < B) : b.cell? p = a.cell? p := h.lo.cell hp
instance : Coe (Blw B a b) (Below B a b) := ⟨Blw.lo⟩
theorem cellUp {w w' : World} {a : Addr} {v : Value} (h : w.cell? a = some v) (hb : Blw w.heap.size w w') : w'.cell? a = some v := cell_up h hb.lo
theorem sal' {w0 w : World} {a : Addr} {v : Value} (h : Hd (Blw w0.heap.size w0 w) ∧ w.cell? a = some v) (o : Obj) : Hd (Blw w0.heap.size w0 (w.alloc o)) ∧ (w.alloc o).cell? a = some v :=
 ⟨⟨h.1.out.alloc h.1.out.size o⟩, cell_up h.2 ((ag _ _).alloc (ae _) _)⟩
end
section
variable {P : Program} {ops : Array Oper} {Q : Exit → Act → World → Prop} {md : Region.Mode}
theorem takeP (i d : Nat) {oi : Oper} {v : Value} {fuel : Nat} {listed : Array Bool} {a : Act} {w : World} (hi : ops[i]? = some oi) (hd : oi.dst = some d)
    (hs : Region.noSelect ops = true) (hf : Region.free md ops listed i = true) (hr : (Region.ready md ops listed).contains i = true)
    (hQ : ∀ c a w, Q (.panic c) (a.put (some d) v) w → Q (.panic c) a w) (hw : Region.wanted oi (yielded ops a.tmps) = true) (hy : ∀ w, (execOp a.eval oi).run P w = .ok (.value v) w)
    (h : wpAny P md ops Q fuel (listed.setIfInBounds i true) (a.put (some d) v) w) : wpAny P md ops Q (fuel + 1) listed a w :=
 wpAny_take (i := i) (v := v) hi hs hf hr (by rw [hd]; exact hQ) (.inl ⟨hw, hy⟩) (by rw [hd]; exact h)
end
theorem limb_trim (A : Option Addr) (c : Nat) (l : List Int) (w : World) (h : RdI w .u64 A l) (hn : l.length ≤ c) (hb9 : l.length ≤ 2000000000) :
    Calls Tryz.prog 227 #[.slice A l.length c] w fun e w' => e = .returned (.slice A (trimL l).length c) ∧ w = w' := by
 go_enter Tryz.func227, Tryz.ntmps227
 go_wp2
 go_loop [0] (fun v => ∃ n : Nat, n ≤ l.length ∧ v = .slice A n c ∧ trimL (l.take n) = trimL l) (fun v => match v with | .slice _ n _ => n | _ => 0)
 case atStart => exact ⟨l.length, ae _, rfl, by rw [List.take_length]⟩
 case round =>
  obtain ⟨n, hnl, rfl, ht⟩ := hrel
  have HT := aa ht; clear ht
  cases n with
  | zero =>
    go_wp2
    go_ret
    exact ⟨by rw [← HT.out]; rfl, rfl⟩
  | succ n =>
    obtain ⟨ad, rfl, hb, hcell⟩ := h.at_ (i := n) (by omega)
    by_cases hz : l.getD n 0 = 0
    ·go_wp2
     ·go_round
      case rel => exact ⟨n, by omega, rfl, by rw [← HT.out, take_snoc (by omega), hz, trimL_snoc0]⟩
      case measure => simp
     ·simp_all
    ·go_wp2
     ·simp_all
     ·go_ret
      refine ⟨?_, rfl⟩
      rw [← HT.out, take_snoc (by omega), trimL_snoc _ _ hz]; simp; omega
theorem clone_u64 (A : Option Addr) (c : Nat) (l : List Int) (w : World) (h : RdI w .u64 A l) (hn : l.length ≤ c) (hb9 : l.length ≤ 2000000000) :
    Calls Tryz.prog 274 #[.slice A l.length c] w fun e w' => ∃ v, e = .returned v ∧ OwnI w' w.heap.size 112 .u64 v l ∧ Below w.heap.size w w' := by
 obtain ⟨i0, hi, hz0, hz1, hz2⟩ := info_split Tryz.infU64
 have hnil := fun (w : World) => Lib.run_eql_slice_nil (P := Tryz.prog) w 61 _ A l.length c 0 0 Tryz.slU64
 have h0 : l.length + 0 ≤ maxLen := by unfold maxLen; omega
 have H := aa h
 clear h
 cases A with
 | none =>
   have hl : l = [] := by
    cases l with
    | nil => rfl
    | cons x l => obtain ⟨ad, h, _⟩ := H.out.at_ (i := 0) (by simp); cases h
   subst hl
   clear hb9 h0 hn H hnil
   have hnil := fun (w : World) => Lib.run_eql_slice_nil (P := Tryz.prog) w 61 _ none 0 c 0 0 Tryz.slU64
   go_enter Tryz.func274, Tryz.ntmps274
   go_wp2
   go_ret
   exact ⟨_, rfl, OwnI.nil _ _ _ _, ag _ _⟩
 | some ad =>
   have hown : (w.alloc (.cells #[] 112)).ownsRow w.heap.size 112 1 (.slice (some ⟨w.heap.size, 0, none⟩) 0 0) 0 [] :=
    World.ownsRow_lit w #[] 0 (ae _) (by unfold maxLen; omega) rfl
   have HO := aa hown
   clear hown
   go_enter Tryz.func274, Tryz.ntmps274
   go_wp2_with (at_builtin; refine wpList_append_rd _ rfl _ _ 61 rfl w.heap.size 112 i0 (.int .u64 0) 1 8 Tryz.slU64 hi hz0 hz1 hz2 rfl (by decide) _ _ _ rfl HO.out _ _ _ _ (ints .u64 l) rfl (Rd.up H.out ((ag _ _).alloc (ae _) _)) (ints_one _ _) ?c1 ?c2 ?c3 ?_)
   case c1 => unfold maxLen; omega
   case c2 => omega
   case c3 => simp
   intro v' w' ho hg _
   go_wp2
   go_ret
   have ho2 : OwnI w' w.heap.size 112 .u64 v' l := by simpa [OwnI] using ho
   exact ⟨_, rfl, ho2, grown_below HO.out hg ((ag _ _).alloc (ae _) _) (by simp)⟩
theorem RdI.trim {w : World} {k : IntKind} {A : Option Addr} {l : List Int} (h : RdI w k A l) : RdI w k A (trimL l) := by
 rw [trimL_take]; exact h.pre (trimL_len l)
theorem limb_Trim (A : Option Addr) (c : Nat) (l : List Int) (w : World) (h : RdI w .u64 A l) (hn : l.length ≤ c) (hb9 : l.length ≤ 1000000000) :
    Calls Tryz.prog 271 #[.slice A l.length c] w fun e w' => ∃ v, e = .returned v ∧ OwnI w' w.heap.size 112 .u64 v (trimL l) ∧ Below w.heap.size w w' := by
 have ht := trimL_len l
 go_enter Tryz.func271, Tryz.ntmps271
 go_wp2_with fail
 refine (limb_trim A c l w h hn (by omega)).mono ?_
 rintro e w' ⟨rfl, rfl⟩
 go_wp2_with fail
 refine (clone_u64 A c (trimL l) w h.trim (by omega) (by omega)).mono ?_
 rintro e w' ⟨v, rfl, ho, hb⟩
 have HO := aa ho
 have HB := aa hb
 clear ho hb
 go_wp2_with fail
 go_ret
 exact ⟨_, rfl, HO.out, HB.out⟩
def cmpN (a b : Nat) : Int := if a < b then -1 else if b < a then 1 else 0
theorem cmpN_lt {a b : Nat} (h : a < b) : cmpN a b = -1 := by simp [cmpN, h]
theorem cmpN_gt {a b : Nat} (h : b < a) : cmpN a b = 1 := by simp [cmpN, h]; omega
theorem cmpN_eq {a b : Nat} (h : a = b) : cmpN a b = 0 := by simp [cmpN, h]
theorem limb_Cmp (A B : Option Addr) (c d : Nat) (l m : List Int) (w : World) (h : RdI w .u64 A l) (hn : l.length ≤ c) (hb9 : l.length ≤ 1000000000)
    (h' : RdI w .u64 B m) (hn' : m.length ≤ d) (hb9' : m.length ≤ 1000000000) (hu : U64 l) (hu' : U64 m) :
    Calls Tryz.prog 272 #[.slice A l.length c, .slice B m.length d] w fun e w' => e = .returned (.int .i64 (cmpN (val l) (val m))) ∧ Dr w w' := by
 have t1 := trimL_len l
 have t2 := trimL_len m
 have e1 := aa (val_trim l)
 have e2 := aa (val_trim m)
 have r1 := aa h.trim
 have r2 := aa h'.trim
 have T1 := aa (trim_trimL l)
 have T2 := aa (trim_trimL m)
 have V1 : Hd (U64 (trimL l)) := ⟨by rw [trimL_take]; exact hu.take _⟩
 have V2 : Hd (U64 (trimL m)) := ⟨by rw [trimL_take]; exact hu'.take _⟩
 rw [← e1.out, ← e2.out]
 have C1 := aa (fun W h => limb_trim A c l W h hn (by omega))
 have C2 := aa (fun W h => limb_trim B d m W h hn' (by omega))
 have H := aa h
 have H' := aa h'
 clear h h' e1 e2 hu hu'
 generalize trimL l = x at *
 generalize trimL m = y at *
 go_enter Tryz.func272, Tryz.ntmps272
 go_wp2_with fail
 refine (C1.out w H.out).mono ?_
 rintro e w' ⟨rfl, rfl⟩
 go_wp2_with fail
 refine (C2.out w H'.out).mono ?_
 rintro e w' ⟨rfl, rfl⟩
 rcases Nat.lt_trichotomy x.length y.length with hl | hl | hl
 ·have hb : ((x.length : Int) != (y.length : Int)) = true := by rw [bne_iff_ne]; omega
  go_wp2
  go_ret
  exact ⟨retInt (cmpN_lt (val_lt_len V1.out V2.out T2.out hl)).symm, .refl _⟩
 ·have HL := aa hl
  have hb : ((x.length : Int) != (y.length : Int)) = false := by rw [bne_eq_false_iff_eq]; omega
  clear hl
  go_wp2
  go_loopw [5] (fun v wr => ∃ i : Int, -1 ≤ i ∧ i < x.length ∧ v = .int .i64 i ∧ Hd (x.drop (i + 1).toNat = y.drop (i + 1).toNat) ∧ Hd (Dr w wr)) (fun v _ => (intOf v + 1).toNat)
  case atStart => exact ⟨_, by omega, by omega, rfl, ⟨by rw [List.drop_eq_nil_of_le (by omega), List.drop_eq_nil_of_le (by have := HL.out; omega)]⟩, ⟨.refl _⟩⟩
  case round =>
   obtain ⟨i, hi1, hi2, rfl, hd, ⟨⟨nq, hw⟩⟩⟩ := hrel
   subst hw
   by_cases hi : 0 ≤ i
   ·obtain ⟨k, rfl⟩ := Int.eq_ofNat_of_zero_le hi
    obtain ⟨ad, a, hA, _, ha, hca⟩ := r1.out.get (i := k) (by omega)
    obtain ⟨bd, b, hB, _, hb2, hcb⟩ := r2.out.get (i := k) (by have := HL.out; omega)
    subst hA hB
    have hy : (k : Int) < y.length := by have := HL.out; omega
    have hk : k < x.length := by omega
    have hky : k < y.length := by omega
    go_wp2
    go_quiet (fail)
    go_wp2
    ·go_ret
     refine ⟨retInt (cmpN_lt (val_cmp_at V1.out V2.out HL.out hk ?_ ?_)).symm, by repeat (first | exact .refl _ | apply Dr.dn)⟩
     ·have := hd.out; simpa using this
     ·rw [ha.out, hb2.out]; assumption
    ·go_quiet (fail)
     go_wp2
     ·go_ret
      refine ⟨retInt (cmpN_gt (val_cmp_at V2.out V1.out HL.out.symm hky ?_ ?_)).symm, by repeat (first | exact .refl _ | apply Dr.dn)⟩
      ·have := hd.out; simpa using this.symm
      ·rw [ha.out, hb2.out]; assumption
     ·go_roundw
      case rel =>
       refine ⟨(k : Int) - 1, by omega, by omega, rfl, ⟨?_⟩, ⟨by repeat (first | exact .refl _ | apply Dr.dn)⟩⟩
       have e3 : ((k : Int) - 1 + 1).toNat = k := by omega
       have h5 := hd.out
       have e4 : ((k : Int) + 1).toNat = k + 1 := by omega
       rw [e4] at h5
       have h6 : x.getD k 0 = y.getD k 0 := by rw [ha.out, hb2.out]; omega
       rw [List.getD_eq_getElem?_getD, List.getD_eq_getElem?_getD, ai hk, ai hky] at h6
       rw [e3, List.drop_eq_getElem_cons hk, List.drop_eq_getElem_cons hky, h5]
       congr 1
      case measure => first | (simp [intOf]; done) | (simp [intOf]; omega)
   ·have hi0 : i = -1 := by omega
    subst hi0
    go_wp2
    go_ret
    refine ⟨retInt (cmpN_eq ?_).symm, ⟨nq, rfl⟩⟩
    have := hd.out
    simp at this
    rw [this]
 ·have hb : ((x.length : Int) != (y.length : Int)) = true := by rw [bne_iff_ne]; omega
  have hb2 : decide (x.length < y.length) = false := by rw [decide_eq_false_iff_not]; omega
  go_wp2
  go_ret
  exact ⟨retInt (cmpN_gt (val_lt_len V2.out V1.out T1.out hl)).symm, .refl _⟩
theorem add64 (x y c : Int) (hx : 0 ≤ x) (hy : 0 ≤ y) (hc0 : 0 ≤ c) (hc : c ≤ 1) (w : World) : (callFunc 229 #[.int .u64 x, .int .u64 y, .int .u64 c]).run Tryz.prog w =
    .ok (.value (.tuple #[.int .u64 ((x + y + c) % 18446744073709551616), .int .u64 ((x + y + c) / 18446744073709551616)])) w := by
 rw [run_callFunc_extern Tryz.func229 (by kernel_rfl) (by kernel_rfl) (by kernel_rfl) (e := add64Entry) (by kernel_rfl), run_add64 x y c hx hy hc0 hc]
 simp only [Result.andThen]
theorem add_step {x b : List Int} {i : Nat} {c : Int} {va : Nat} (hi : i < x.length) (hx : U64 x) (hb : U64 b) (hc : c = 0 ∨ c = 1)
    (h : val x + 18446744073709551616 ^ i * c.toNat = va + val (b.take i)) :
    U64 (x.set i ((x.getD i 0 + b.getD i 0 + c) % 18446744073709551616)) ∧ ((x.getD i 0 + b.getD i 0 + c) / 18446744073709551616 = 0 ∨ (x.getD i 0 + b.getD i 0 + c) / 18446744073709551616 = 1) ∧
    val (x.set i ((x.getD i 0 + b.getD i 0 + c) % 18446744073709551616)) + 18446744073709551616 ^ (i + 1) * ((x.getD i 0 + b.getD i 0 + c) / 18446744073709551616).toNat = va + val (b.take (i + 1)) := by
 have h1 := hx.at_ i
 have h2 := hb.at_ i
 refine ⟨hx.set i (by omega) (by omega), by omega, ?_⟩
 have h3 := val_set x i hi ((x.getD i 0 + b.getD i 0 + c) % 18446744073709551616)
 rw [val_take_succ, Nat.pow_succ]
 generalize val (x.set i ((x.getD i 0 + b.getD i 0 + c) % 18446744073709551616)) = z at *
 generalize 18446744073709551616 ^ i = p at *
 generalize x.getD i 0 = xi at *
 generalize b.getD i 0 = yi at *
 have e : ((xi + yi + c) % 18446744073709551616).toNat + 18446744073709551616 * ((xi + yi + c) / 18446744073709551616).toNat = xi.toNat + yi.toNat + c.toNat := by omega
 have e2 := congrArg (p * ·) e
 simp only [Nat.mul_add] at e2
 rw [← Nat.mul_assoc] at e2
 generalize p * ((xi + yi + c) % 18446744073709551616).toNat = q1 at *
 generalize p * 18446744073709551616 * ((xi + yi + c) / 18446744073709551616).toNat = q2 at *
 omega
theorem sub_step {x b : List Int} {i : Nat} {c s c' : Int} {va : Nat} (hi : i < x.length) (hx : U64 x) (hb : U64 b) (hc : c = 0 ∨ c = 1)
    (hs : s = (x.getD i 0 - b.getD i 0 - c) % 18446744073709551616) (hc' : c' = if x.getD i 0 < b.getD i 0 + c then 1 else 0)
    (h : val x + val (b.take i) = va + 18446744073709551616 ^ i * c.toNat) :
    U64 (x.set i s) ∧ (c' = 0 ∨ c' = 1) ∧ val (x.set i s) + val (b.take (i + 1)) = va + 18446744073709551616 ^ (i + 1) * c'.toNat := by
 have h1 := hx.at_ i
 have h2 := hb.at_ i
 have hs0 : 0 ≤ s ∧ s < 18446744073709551616 := by omega
 refine ⟨hx.set i hs0.1 hs0.2, by split at hc' <;> omega, ?_⟩
 have h3 := val_set x i hi s
 rw [val_take_succ, Nat.pow_succ]
 generalize val (x.set i s) = z at *
 generalize 18446744073709551616 ^ i = p at *
 generalize x.getD i 0 = xi at *
 generalize b.getD i 0 = yi at *
 have e : s.toNat + yi.toNat + c.toNat = xi.toNat + 18446744073709551616 * c'.toNat := by split at hc' <;> omega
 have e2 := congrArg (p * ·) e
 simp only [Nat.mul_add] at e2
 rw [← Nat.mul_assoc] at e2
 generalize p * s.toNat = q1 at *
 generalize p * 18446744073709551616 * c'.toNat = q2 at *
 omega
theorem sub_end {x l m : List Int} {n : Nat} {c : Int} (hx : U64 x) (hl : U64 l) (_hm : U64 m) (hn : x.length = n) (hln : val l < 18446744073709551616 ^ n) (hc : c = 0 ∨ c = 1) (hle : val m ≤ val l)
    (h : val x + val (m.take n) = val l + 18446744073709551616 ^ n * c.toNat) : val x = val l - val m := by
 have h1 := val_lt hx
 rw [hn] at h1
 have hm : val (m.take n) = val m := by
  rcases Nat.lt_or_ge n m.length with h2 | h2
  ·have h3 := val_take_drop m n (by omega)
   rcases Nat.eq_zero_or_pos (val (m.drop n)) with h4 | h4
   ·rw [h4] at h3; omega
   ·have := Nat.mul_le_mul_left (18446744073709551616 ^ n) h4
    generalize 18446744073709551616 ^ n * val (m.drop n) = q at *
    omega
  ·rw [List.take_of_length_le h2]
 rw [hm] at h
 rcases hc with rfl | rfl
 ·simp at h; omega
 ·simp at h; omega
theorem limb_Add (A B : Option Addr) (c d : Nat) (l m : List Int) (w : World) (h : RdI w .u64 A l) (hn : l.length ≤ c) (hb9 : l.length ≤ 1000000000)
    (h' : RdI w .u64 B m) (hn' : m.length ≤ d) (hb9' : m.length ≤ 1000000000) (hu : U64 l) (hu' : U64 m) :
    Calls Tryz.prog 302 #[.slice A l.length c, .slice B m.length d] w fun e w' => ∃ v, e = .returned v ∧ OwnI w' w.heap.size 112 .u64 v (limbs (val l + val m)) ∧ Below w.heap.size w w' := by
 obtain ⟨i0, hi, hz0, hz1, hz2⟩ := info_split Tryz.infU64
 have t1 := trimL_len l
 have V1 : Hd (U64 (trimL l)) := ⟨by rw [trimL_take]; exact hu.take _⟩
 have E1 := aa (val_trim l)
 go_enter Tryz.func302, Tryz.ntmps302
 go_wp2_with fail
 refine (limb_trim A c l w h hn (by omega)).mono ?_
 rintro e w' ⟨rfl, rfl⟩
 by_cases h0 : (trimL l).length = 0
 ·have hz : (((trimL l).length : Int) == 0) = true := by rw [beq_iff_eq]; omega
  have H0 := aa h0
  clear h0
  go_wp2_with fail
  refine (limb_Trim B d m w h' hn' hb9').mono ?_
  rintro e w' ⟨v, rfl, ho, hb⟩
  have HO := aa ho
  have HB := aa hb
  clear ho hb
  go_wp2_with fail
  go_ret
  refine ⟨_, rfl, ?_, HB.out⟩
  have e0 : trimL l = [] := List.eq_nil_of_length_eq_zero H0.out
  have e1 := E1.out
  rw [e0] at e1
  rw [← e1, val, Nat.zero_add, ← trim_limbs hu']
  exact HO.out
 ·have hz : (((trimL l).length : Int) == 0) = false := by rw [beq_eq_false_iff_ne]; omega
  clear h0
  go_wp2_with fail
  refine (limb_Trim A c l w h hn hb9).mono ?_
  rintro e w' ⟨v, rfl, ho, hb⟩
  have HO := aa ho
  have HB := aa hb
  have H' := aa (h'.up hb)
  have HU := aa h'
  clear ho hb hz h h'
  obtain ⟨t, htt⟩ : ∃ t, t = (trimL l).length := ⟨_, rfl⟩
  have HT := aa htt
  rw [← htt] at t1
  clear htt
  go_wp2_with fail
  go_loopg [5, 6, 7] (max t m.length + 2) (fun g vx vc vi wr => ∃ (xs : List Int) (i : Nat) (cy : Int), vc = .int .u64 cy ∧ vi = .int .i64 i ∧ Hd (cy = 0 ∨ cy = 1) ∧ Hd (OwnI wr w.heap.size 112 .u64 vx xs) ∧ Hd (Below w.heap.size w wr) ∧ Hd (U64 xs) ∧
   Hd (val xs + 18446744073709551616 ^ i * cy.toNat = val l + val (m.take i)) ∧ Hd (xs.length = max t i) ∧ Hd (i ≤ max t m.length ∨ cy = 0 ∧ i = max t m.length + 1) ∧ Hd (g + i = max t m.length + 2))
  case atStart => exact ⟨trimL l, 0, 0, rfl, rfl, ⟨.inl rfl⟩, ⟨HO.out⟩, ⟨HB.out⟩, V1, ⟨by rw [E1.out]; simp [val]⟩, ⟨by rw [HT.out]; simp⟩, ⟨.inl (by omega)⟩, ⟨by omega⟩⟩
  case round =>
   obtain ⟨xs, i, cy, rfl, rfl, hcy, hown, hbel, hxu, hval, hlen, hend, hg⟩ := hrel
   have hi9 : i ≤ 1000000001 := by have := hend.out; omega
   obtain ⟨gk, rfl⟩ : ∃ g1, gk = g1 + 1 := ⟨gk - 1, by have := hend.out; have := hg.out; omega⟩
   by_cases hgo : i < m.length ∨ cy = 1
   ·have HG := aa hgo
    have hgo2 : decide (i < m.length) = true ∨ (decide (i < m.length) = false ∧ decide (0 < cy) = true) := by
     by_cases hq : i < m.length
     ·exact .inl (decide_eq_true hq)
     ·exact .inr ⟨decide_eq_false hq, decide_eq_true (by omega)⟩
    have hx9 : xs.length ≤ 1000000001 := by have := hlen.out; omega
    have hcy01 : 0 ≤ cy ∧ cy ≤ 1 := by have := hcy.out; omega
    clear hgo
    obtain ⟨A5, c5, rfl, hc5, hm5, hr5⟩ := hown.out.reads
    have HR5 := aa hr5
    clear hr5
    rcases hgo2 with hd | ⟨hd, hd2⟩
    all_goals
     go_upto_if 30 with (fail)
     go_cut [5] (fun v5 wx => ∃ ys : List Int, Hd (i < ys.length) ∧ Hd (ys.length = max t (i + 1)) ∧ Hd (U64 ys) ∧ Hd (val ys = val xs) ∧ Hd (xs.length ≤ i → ys.getD i 0 = 0) ∧ Hd (OwnI wx w.heap.size 112 .u64 v5 ys) ∧ Hd (Below w.heap.size w wx))
     case first =>
      by_cases hx : i < xs.length
      ·have hxb : decide (xs.length ≤ i) = false := by rw [decide_eq_false_iff_not]; omega
       go_wp2
       go_meet
       exact ⟨xs, ⟨hx⟩, ⟨by have := hlen.out; omega⟩, hxu, ⟨rfl⟩, ⟨fun h => by omega⟩, hown, hbel⟩
      ·have hxb : decide (xs.length ≤ i) = true := by rw [decide_eq_true_iff]; omega
       go_wp2_with (at_builtin; go_loud (refine wpList_append_rd _ rfl _ _ 61 rfl w.heap.size 112 i0 (.int .u64 0) 1 8 Tryz.slU64 hi hz0 hz1 hz2 rfl (by decide) _ _ _ rfl (hown.out.al _) _ _ 1 1 (ints .u64 [0]) rfl (Rd.new_ wr #[.int .u64 0] 112 1 1 rfl) (ints_one _ _) ?c1 ?c2 ?c3 ?_))
       case c1 => unfold maxLen; omega
       case c2 => omega
       case c3 => have := hbel.out.size; simp; omega
       intro v' w' ho hg _
       go_wp2
       go_meet
       have hxi : xs.length = i := by have := hlen.out; omega
       have ho2 : OwnI w' w.heap.size 112 .u64 v' (xs ++ [0]) := by
        unfold OwnI; rw [ints_app, List.length_append]; exact ho
       have hB := hbel.out.size
       exact ⟨xs ++ [0], ⟨by simp; omega⟩, ⟨by have := hlen.out; simp; omega⟩, ⟨hxu.out.app (U64.nil.cons (by omega) (by omega))⟩, ⟨val_snoc0 xs⟩, ⟨fun _ => by rw [← hxi]; simp⟩, ⟨ho2⟩,
        ⟨grown_below (hown.out.al _) hg (hbel.out.alloc hB _) (by simp; omega)⟩⟩
     case rest =>
      obtain ⟨ys, hy1, hy2, hyu, hyv, hyz, hyo, hyb⟩ := hcut
      clear hown HR5
      have HM := aa (HU.out.up hyb.out)
      obtain ⟨g, c6, x, rfl, hg1, hg2, hx, hcell, hfro, hset⟩ := hyo.out.cell hy1.out
      have HS := aa hset
      clear hset
      go_upto_if 37 with (fail)
      go_cut [8] (fun v8 wx => v8 = .int .u64 (m.getD i 0) ∧ wx = wc)
      case first =>
       by_cases hlt : i < m.length
       ·obtain ⟨bd, y, rfl, _, hy, hcb⟩ := HM.out.get hlt
        have hd3 : decide (i < m.length) = true := decide_eq_true hlt
        first
        | exact absurd hlt (of_decide_eq_false hd)
        | (go_wp2; go_meet; exact ⟨by rw [hy.out], rfl⟩)
       ·have hd3 : decide (i < m.length) = false := decide_eq_false hlt
        first
        | exact absurd (of_decide_eq_true hd) hlt
        | (go_wp2; go_meet; exact ⟨by rw [getD_out (by omega)], rfl⟩)
      case rest =>
       obtain ⟨rfl, rfl⟩ := hcut
       obtain ⟨y, hy⟩ : ∃ y, m.getD i 0 = y := ⟨_, rfl⟩
       have hy0 := hu'.at_ i
       have hx0 := hyu.out.at_ i
       rw [hx.out] at hx0
       rw [hy] at hy0
       have HY := aa hy
       rw [hy]
       clear hy
       have hi2 := hy1.out
       go_wp2_with (simp only [add64 x y cy hx0.1 hy0.1 hcy01.1 hcy01.2])
       go_roundg gk
       case measure => omega
       case rel =>
        have hst := add_step (b := m) (c := cy) (va := val l) hi2 hyu.out hu' hcy.out (by rw [hyv.out]; exact hval.out)
        rw [hx.out, HY.out] at hst
        obtain ⟨q1, q2, q3⟩ := hst
        refine ⟨_, i + 1, _, rfl, by go_num, ⟨q2⟩, ⟨HS.out _⟩, ⟨hyb.out.setCell hg1 _⟩, ⟨q1⟩, ⟨q3⟩, ⟨by rw [List.length_set]; exact hy2.out⟩, ⟨?_⟩, ⟨by have := hg.out; omega⟩⟩
        by_cases hM : i + 1 ≤ max t m.length
        ·exact .inl hM
        ·have h1 := hend.out
         have h2 := HG.out
         have h3 := hlen.out
         have hxz : x = 0 := by rw [← hx.out]; exact hyz.out (by omega)
         have hyz : y = 0 := by rw [← HY.out]; exact getD_out (by omega)
         subst hxz hyz
         refine .inr ⟨by omega, by omega⟩
   ·have hd : decide (i < m.length) = false := decide_eq_false (by omega)
    have hc0 : cy = 0 := by have := hcy.out; omega
    subst hc0
    obtain ⟨A5, c5, rfl, hc5, hm5, hr5⟩ := hown.out.reads
    have HR5 := aa hr5
    clear hr5
    go_wp2_with fail
    refine (limb_trim A5 c5 xs wr HR5.out hc5 (by have := hlen.out; omega)).mono ?_
    rintro e w2 ⟨rfl, rfl⟩
    go_wp2_with fail
    go_ret
    refine ⟨_, rfl, ?_, hbel.out⟩
    have h5 := hval.out
    rw [List.take_of_length_le (by omega)] at h5
    simp at h5
    rw [← h5, ← trim_limbs hxu.out]
    have h6 := hown.out.pre (trimL_len xs)
    rw [← trimL_take] at h6
    exact h6
def bor (x y b : Int) : Int := if x < y + b then 1 else 0
def sub64Entry : Array Value → Sem Value := fun args => do
 let (x, y, b) ← Extern.MathBitsCarry.three "Sub64" args
 pure (Extern.MathBitsCarry.pair ((x + Extern.MathBitsCarry.m64 - y - b) % Extern.MathBitsCarry.m64) (if x < y + b then 1 else 0))
theorem run_sub64' {P : Program} (x y b : Nat) (hb : b ≤ 1) (w : World) :
    (sub64Entry #[.int .u64 x, .int .u64 y, .int .u64 b]).run P w =
     .ok (.tuple #[.int .u64 (((x + 18446744073709551616 - y - b) % 18446744073709551616 : Nat) : Int), .int .u64 ((if x < y + b then 1 else 0 : Nat) : Int)]) w := by
 have : b = 0 ∨ b = 1 := by omega
 rcases this with rfl | rfl <;> rfl
theorem sub64 (x y b : Int) (hx : 0 ≤ x) (hy : 0 ≤ y) (hy' : y < 18446744073709551616) (hb0 : 0 ≤ b) (hb : b ≤ 1) (w : World) : (callFunc 317 #[.int .u64 x, .int .u64 y, .int .u64 b]).run Tryz.prog w =
    .ok (.value (.tuple #[.int .u64 ((x - y - b) % 18446744073709551616), .int .u64 (bor x y b)])) w := by
 obtain ⟨x, rfl⟩ := Int.eq_ofNat_of_zero_le hx
 obtain ⟨y, rfl⟩ := Int.eq_ofNat_of_zero_le hy
 obtain ⟨b, rfl⟩ := Int.eq_ofNat_of_zero_le hb0
 have e1 : (((x + 18446744073709551616 - y - b) % 18446744073709551616 : Nat) : Int) = ((x : Int) - y - b) % 18446744073709551616 := by omega
 have e2 : ((if x < y + b then 1 else 0 : Nat) : Int) = bor x y b := by unfold bor; split <;> split <;> omega
 rw [← e1, ← e2, run_callFunc_extern Tryz.func317 (by kernel_rfl) (by kernel_rfl) (by kernel_rfl) (e := sub64Entry) (by kernel_rfl), run_sub64' x y b (by omega)]
 simp only [Result.andThen]
theorem sum_1 (g gs gc i n c : Nat) (x y cy : Int) (w : World) (hi : i < n) (hn9 : n ≤ 2000000000)
    (h1 : w.cell? ⟨gs, 0, none⟩ = some (.slice (some ⟨g, 0, none⟩) n c)) (h2 : w.cell? ⟨g, i, none⟩ = some (.int .u64 x)) (h3 : w.cell? ⟨gc, 0, none⟩ = some (.int .u64 cy))
    (f2 : w.frozen? ⟨g, i, none⟩ = false) (f3 : w.frozen? ⟨gc, 0, none⟩ = false) (hne : g ≠ gc)
    (hx : 0 ≤ x) (hy : 0 ≤ y) (hc0 : 0 ≤ cy) (hc1 : cy ≤ 1) :
    Calls Tryz.prog 273 #[.int .i64 i, .int .u64 y, .pointer (some ⟨gs, 0, none⟩), .pointer (some ⟨gc, 0, none⟩)] w fun e w' => e = .returned (.tuple #[]) ∧
     w' = ((w.setCell ⟨g, i, none⟩ (.int .u64 ((x + y + cy) % 18446744073709551616))).setCell ⟨gc, 0, none⟩ (.int .u64 ((x + y + cy) / 18446744073709551616))).drew := by
 have hi2 : (i : Int) < n := by omega
 go_enter Tryz.func273, Tryz.ntmps273
 go_wp2_with fail
 have ha := add64 x y cy hx hy hc0 hc1
 go_region
 go_end0
 exact ⟨rfl, rfl⟩
theorem sub_1 (g gs gc i n c : Nat) (x y cy : Int) (w : World) (hi : i < n) (hn9 : n ≤ 2000000000)
    (h1 : w.cell? ⟨gs, 0, none⟩ = some (.slice (some ⟨g, 0, none⟩) n c)) (h2 : w.cell? ⟨g, i, none⟩ = some (.int .u64 x)) (h3 : w.cell? ⟨gc, 0, none⟩ = some (.int .u64 cy))
    (f2 : w.frozen? ⟨g, i, none⟩ = false) (f3 : w.frozen? ⟨gc, 0, none⟩ = false) (hne : g ≠ gc)
    (hx : 0 ≤ x) (hy : 0 ≤ y) (hy2 : y < 18446744073709551616) (hc0 : 0 ≤ cy) (hc1 : cy ≤ 1) :
    Calls Tryz.prog 316 #[.int .i64 i, .int .u64 y, .pointer (some ⟨gs, 0, none⟩), .pointer (some ⟨gc, 0, none⟩)] w fun e w' => e = .returned (.tuple #[]) ∧
     w' = ((w.setCell ⟨g, i, none⟩ (.int .u64 ((x - y - cy) % 18446744073709551616))).setCell ⟨gc, 0, none⟩ (.int .u64 (bor x y cy))).drew := by
 have hi2 : (i : Int) < n := by omega
 have ha := sub64 x y cy hx hy hy2 hc0 hc1
 go_enter Tryz.func316, Tryz.ntmps316
 go_wp2_with fail
 go_region
 go_end0
 exact ⟨rfl, rfl⟩
theorem limb_Sub_lt (A B : Option Addr) (c d : Nat) (l m : List Int) (w : World) (h : RdI w .u64 A l) (hn : l.length ≤ c) (hb9 : l.length ≤ 1000000000)
    (h' : RdI w .u64 B m) (hn' : m.length ≤ d) (hb9' : m.length ≤ 1000000000) (hu : U64 l) (hu' : U64 m) (hlt : val l < val m) :
    Calls Tryz.prog 301 #[.slice A l.length c, .slice B m.length d] w fun e w' => e = .returned (.tuple #[.slice none 0 0, .bool false]) ∧ Dr w w' := by
 have e0 := cmpN_lt hlt
 have C := limb_Cmp A B c d l m w h hn hb9 h' hn' hb9' hu hu'
 rw [e0] at C
 go_enter Tryz.func301, Tryz.ntmps301
 go_wp2_with fail
 refine C.mono ?_
 rintro e w' ⟨rfl, hw⟩
 go_wp2_with fail
 go_ret2
 exact ⟨rfl, hw⟩
theorem limb_Sub_ge (A B : Option Addr) (c d : Nat) (l m : List Int) (w : World) (h : RdI w .u64 A l) (hn : l.length ≤ c) (hb9 : l.length ≤ 1000000000)
    (h' : RdI w .u64 B m) (hn' : m.length ≤ d) (hb9' : m.length ≤ 1000000000) (hu : U64 l) (hu' : U64 m) (hge : val m ≤ val l) :
    Calls Tryz.prog 301 #[.slice A l.length c, .slice B m.length d] w fun e w' => ∃ v, e = .returned (.tuple #[v, .bool true]) ∧ OwnI w' w.heap.size 112 .u64 v (limbs (val l - val m)) ∧ Below w.heap.size w w' := by
 have C : Calls Tryz.prog 272 #[.slice A l.length c, .slice B m.length d] w fun e w' => (∃ r : Int, 0 ≤ r ∧ e = .returned (.int .i64 r)) ∧ Dr w w' :=
  (limb_Cmp A B c d l m w h hn hb9 h' hn' hb9' hu hu').mono fun e w' ⟨he, hw⟩ => ⟨⟨_, by unfold cmpN; split <;> (try split) <;> omega, he⟩, hw⟩
 have HGE := aa hge
 clear hge
 have tl := trimL_len l
 have E1 := aa (val_trim l)
 have U1 : Hd (U64 (trimL l)) := ⟨by rw [trimL_take]; exact hu.take _⟩
 go_enter Tryz.func301, Tryz.ntmps301
 go_wp2_with fail
 refine C.mono ?_
 rintro e w' ⟨⟨r, hr, rfl⟩, hw⟩
 have hr2 : decide (r < 0) = false := decide_eq_false (by omega)
 have HW := aa hw.below
 have h1 := aa (h.up hw.below)
 have h2 := aa (h'.up hw.below)
 have HM0 := aa h'
 have hsz := hw.below.size
 clear hw h h' C
 go_wp2_with fail
 refine (limb_Trim A c l w' h1.out hn hb9).mono ?_
 rintro e w2 ⟨v, rfl, ho, hb⟩
 have HO := aa (ho.low hsz)
 have HB := aa (HW.out.trans (hb.mono hsz))
 have h3 := aa (h2.out.up hb)
 clear ho hb hsz h1 h2 hr hr2
 obtain ⟨x0, hx0⟩ : ∃ x0, x0 = trimL l := ⟨_, rfl⟩
 rw [← hx0] at HO E1 U1 tl
 have hl9 : x0.length ≤ 1000000000 := by omega
 clear hx0
 obtain ⟨A1, c1, rfl, hc1, hm1, hr1⟩ := HO.out.reads
 clear hr1 hc1 hm1
 go_wp2_with fail
 have LT := aa (fun k hk => (World.ownsRow.lt HO.out k hk).2)
 have hne1 : w2.heap.size ≠ w2.heap.size + 1 := by omega
 have hbase := aa HB.out.size
 go_loopw [19] (fun v19 wr => ∃ (xs : List Int) (i : Nat) (b : Int), v19 = .int .i64 i ∧ i ≤ x0.length ∧ Hd (xs.length = x0.length) ∧ Hd (b = 0 ∨ b = 1) ∧ Hd (Bk wr w2.heap.size 61 #[.slice A1 x0.length c1]) ∧
     Hd (Bk wr (w2.heap.size + 1) 112 #[.int .u64 b]) ∧ Hd (OwnI wr w.heap.size 112 .u64 (.slice A1 x0.length c1) xs) ∧ Hd (Below w.heap.size w wr) ∧ Hd (U64 xs) ∧
     Hd (val xs + val (m.take i) = val l + 18446744073709551616 ^ i * b.toNat)) (fun v _ => x0.length - (intOf v).toNat)
 case atStart =>
  refine ⟨x0, 0, 0, rfl, by omega, ⟨rfl⟩, ⟨.inl rfl⟩, ⟨(Bk.new_ _ _ _).al _⟩, ⟨?_⟩, ⟨(HO.out.al _).al _⟩, ⟨(HB.out.alloc hbase.out _).alloc (by have := hbase.out; simp; omega) _⟩, U1, ⟨by rw [E1.out]; simp [val]⟩⟩
  have := Bk.new_ (w2.alloc (.cells #[.slice A1 x0.length c1] 61)) 112 #[.int .u64 0]
  rwa [World.size_alloc] at this
 case round =>
  obtain ⟨xs, i, b, rfl, hi, hlen, hb01, hk1, hk2, hown, hbel, hxu, heq⟩ := hrel
  by_cases hlt : i < x0.length
  ·obtain ⟨g, c6, x, hv, hg1, hg2, hx, hcell, hfro, hset⟩ := hown.out.cell (i := i) (by have := hlen.out; omega)
   injection hv with hv1 hv2 hv3
   subst hv1 hv3
   have hgl := LT.out g rfl
   have HS := aa hset
   have hc1 := hk1.out.cell 0
   have hc2 := hk2.out.cell 0
   have hf2 := hk2.out.froz 0
   have hx0 := hxu.out.at_ i
   rw [hx.out] at hx0
   obtain ⟨y, hy⟩ : ∃ y, m.getD i 0 = y := ⟨_, rfl⟩
   have hy0 := hu'.at_ i
   rw [hy] at hy0
   have HY := aa hy
   have hb2 := hb01.out
   have CC := aa (sub_1 g w2.heap.size (w2.heap.size + 1) i x0.length c1 x y b wr hlt (by omega) (by simpa using hc1) hcell (by simpa using hc2) hfro hf2 (by omega) hx0.1 hy0.1 hy0.2 (by omega) (by omega))
   have HM := aa (HM0.out.up hbel.out)
   clear hset hc1 hc2 hf2 hy hb2 hx0 hy0 hcell hfro hv2
   by_cases hlm : i < m.length
   ·obtain ⟨bd, y2, rfl, _, hy2, hcb⟩ := HM.out.get hlm
    have hyy : y2 = y := by rw [← hy2.out, HY.out]
    subst hyy
    go_wp2_with fail
    refine CC.out.mono ?_
    rintro e w3 ⟨rfl, rfl⟩
    go_wp2_with fail
    go_roundw
    case measure => first | (simp [intOf]; done) | (simp [intOf]; omega)
    case rel =>
     obtain ⟨q1, q2, q3⟩ := sub_step (s := (x - y2 - b) % 18446744073709551616) (c' := bor x y2 b) (c := b) (va := val l) (by have := hlen.out; omega) hxu.out hu' hb01.out (by rw [hx.out, HY.out]) (by rw [hx.out, HY.out]; rfl) heq.out
     exact ⟨_, i + 1, _, by go_num, by omega, ⟨by rw [List.length_set]; exact hlen.out⟩, ⟨q2⟩, ⟨(((hk1.out.far (p := ⟨g, i, none⟩) (by simp; omega) _).far (p := ⟨w2.heap.size + 1, 0, none⟩) (by simp) _).d1)⟩, ⟨((hk2.out.far (p := ⟨g, i, none⟩) (by simp; omega) _).set_ 0 _).d1⟩,
      ⟨by have := hlen.out; rw [← hlen.out]; exact (((HS.out _).far (p := ⟨w2.heap.size + 1, 0, none⟩) (by simp [Value.ownBlock]; omega) _).d1)⟩, ⟨((hbel.out.setCell hg1 _).setCell (by have := hbase.out; simp; omega) _).drew⟩, ⟨q1⟩, ⟨q3⟩⟩
   ·have hyy : y = 0 := by rw [← HY.out]; exact getD_out (by omega)
    subst hyy
    go_wp2_with fail
    refine CC.out.mono ?_
    rintro e w3 ⟨rfl, rfl⟩
    go_wp2_with fail
    go_roundw
    case measure => first | (simp [intOf]; done) | (simp [intOf]; omega)
    case rel =>
     obtain ⟨q1, q2, q3⟩ := sub_step (s := (x - b) % 18446744073709551616) (c' := bor x 0 b) (c := b) (va := val l) (by have := hlen.out; omega) hxu.out hu' hb01.out (by rw [hx.out, HY.out, Int.sub_zero]) (by rw [hx.out, HY.out]; rfl) heq.out
     exact ⟨_, i + 1, _, by go_num, by omega, ⟨by rw [List.length_set]; exact hlen.out⟩, ⟨q2⟩, ⟨(((hk1.out.far (p := ⟨g, i, none⟩) (by simp; omega) _).far (p := ⟨w2.heap.size + 1, 0, none⟩) (by simp) _).d1)⟩, ⟨((hk2.out.far (p := ⟨g, i, none⟩) (by simp; omega) _).set_ 0 _).d1⟩,
      ⟨by have := hlen.out; rw [← hlen.out]; exact (((HS.out _).far (p := ⟨w2.heap.size + 1, 0, none⟩) (by simp [Value.ownBlock]; omega) _).d1)⟩, ⟨((hbel.out.setCell hg1 _).setCell (by have := hbase.out; simp; omega) _).drew⟩, ⟨q1⟩, ⟨q3⟩⟩
  ·have hc1 : wr.cell? ⟨w2.heap.size, 0, none⟩ = some (.slice A1 x0.length c1) := by rw [hk1.out.cell 0]; rfl
   have hie : i = x0.length := by omega
   obtain ⟨A7, c7, hv, hc7, hm7, hr7⟩ := hown.out.reads
   injection hv with hv1 hv2 hv3
   subst hv1 hv3
   have HR := aa hr7
   have HL2 := hlen.out
   clear hr7 hv2
   have CC := aa (fun W h => limb_trim A1 c1 xs W h hc7 (by omega))
   rw [HL2] at CC
   go_wp2_with fail
   refine (CC.out _ HR.out).mono ?_
   rintro e w3 ⟨rfl, rfl⟩
   go_wp2_with fail
   go_ret2
   refine ⟨_, rfl, ?_, hbel.out⟩
   have hvl := val_lt U1.out
   rw [E1.out] at hvl
   have h5 := sub_end hxu.out hu hu' hlen.out hvl hb01.out HGE.out (by rw [← hie]; exact heq.out)
   rw [← h5, ← trim_limbs hxu.out]
   have h6 := hown.out.pre (trimL_len xs)
   rw [← trimL_take] at h6
   exact h6
structure SumSt (base P0 P1 : Nat) (v : Value) (wr : World) (os : List Int) (cy : Int) : Prop where
 k0 : Bk wr P0 61 #[v]
 k1 : Bk wr P1 112 #[.int .u64 cy]
 own : OwnI wr base 112 .u64 v os
 ne : v.ownBlock ≠ some P1
 u : U64 os
 c01 : cy = 0 ∨ cy = 1
theorem carry_step {os : List Int} {i : Nat} {s c' y cy : Int} (hi : i < os.length) (hu : U64 os) (hy : 0 ≤ y) (hc : 0 ≤ cy) (hs : 0 ≤ s) (hc' : 0 ≤ c') (h : s + 18446744073709551616 * c' = os.getD i 0 + y + cy) :
    val (os.set i s) + 18446744073709551616 ^ (i + 1) * c'.toNat = val os + 18446744073709551616 ^ i * (y.toNat + cy.toNat) := by
 have h3 := val_set os i hi s
 have h1 := hu.at_ i
 rw [Nat.pow_succ]
 generalize val (os.set i s) = z at *
 generalize 18446744073709551616 ^ i = p at *
 generalize os.getD i 0 = xi at *
 have e : s.toNat + 18446744073709551616 * c'.toNat = xi.toNat + (y.toNat + cy.toNat) := by omega
 have e2 := congrArg (p * ·) e
 simp only [Nat.mul_add] at e2
 rw [← Nat.mul_assoc] at e2
 rw [Nat.mul_add]
 generalize p * s.toNat = q1 at *
 generalize p * 18446744073709551616 * c'.toNat = q2 at *
 omega
theorem sum_add (base P0 P1 i : Nat) (iI : Int) (hI : iI = i) (v : Value) (os : List Int) (y cy : Int) (w : World) (h : SumSt base P0 P1 v w os cy) (hi : i < os.length) (h9 : os.length ≤ 2000000000) (hy : 0 ≤ y ∧ y < 18446744073709551616) (hb1 : base ≤ P1) :
    Calls Tryz.prog 273 #[.int .i64 iI, .int .u64 y, .pointer (some ⟨P0, 0, none⟩), .pointer (some ⟨P1, 0, none⟩)] w fun e w' => e = .returned (.tuple #[]) ∧
     ∃ s c', SumSt base P0 P1 v w' (os.set i s) c' ∧ Below base w w' ∧ val (os.set i s) + 18446744073709551616 ^ (i + 1) * c'.toNat = val os + 18446744073709551616 ^ i * (y.toNat + cy.toNat) ∧ (i < os.length → os.getD i 0 = 0 → y = 0 → c' = 0) := by
 subst hI
 obtain ⟨g, c, x, rfl, hg1, hg2, hx, hcell, hfro, hset⟩ := h.own.cell hi
 have hx0 := h.u.at_ i
 rw [hx.out] at hx0
 have hcy := h.c01
 have hne : g ≠ P1 := fun e => h.ne (by rw [e]; rfl)
 have hne0 : g ≠ P0 := fun e => own_ne h.own h.k0 (by decide) (by rw [e]; rfl)
 have h01 : P0 ≠ P1 := Bk.ne_ h.k0 h.k1 (by decide)
 refine (sum_1 g P0 P1 i os.length c x y cy w hi h9 (by rw [h.k0.cell 0]; rfl) hcell (by rw [h.k1.cell 0]; rfl) hfro (h.k1.froz 0) hne hx0.1 hy.1 (by omega) (by omega)).mono ?_
 rintro e w' ⟨rfl, rfl⟩
 refine ⟨rfl, (x + y + cy) % 18446744073709551616, (x + y + cy) / 18446744073709551616, ⟨?_, ?_, ?_, h.ne, ?_, ?_⟩, ?_, ?_, ?_⟩
 ·exact ((h.k0.far (p := ⟨g, i, none⟩) (Ne.symm hne0) _).far (p := ⟨P1, 0, none⟩) h01 _).d1
 ·exact ((h.k1.far (p := ⟨g, i, none⟩) (Ne.symm hne) _).set_ 0 _).d1
 ·exact (((hset _).far (p := ⟨P1, 0, none⟩) (by simpa [Value.ownBlock] using hne) _).d1)
 ·exact h.u.set i (by omega) (by omega)
 ·omega
 ·exact (((ag base w).setCell hg1 _).setCell hb1 _).drew
 ·exact carry_step hi h.u hy.1 (by omega) (by omega) (by omega) (by rw [hx.out]; omega)
 ·intro _ h0 hy0
  rw [hx.out] at h0
  subst h0 hy0
  omega
def RdRows (w : World) (A : Option Addr) (rs : List (List Int)) : Prop :=
 ∃ cs, Rd w w.heap.size 1 A rs.length cs ∧ ∀ (j : Nat) (r : List Int), rs[j]? = some r → ∃ a c, cs[j]? = some (.slice a r.length c) ∧ r.length ≤ c ∧ RdI w .u64 a r
theorem RdRows.up {w w' : World} {A : Option Addr} {rs : List (List Int)} (h : RdRows w A rs) (hb : Below w.heap.size w w') : RdRows w' A rs := by
 obtain ⟨cs, h1, h2⟩ := h
 refine ⟨cs, h1.up hb, fun j r hr => ?_⟩
 obtain ⟨a, c, e, hc, hr⟩ := h2 j r hr
 exact ⟨a, c, e, hc, hr.up hb⟩
theorem RdRows.get {w : World} {A : Option Addr} {rs : List (List Int)} (h : RdRows w A rs) {j : Nat} (hj : j < rs.length) :
    ∃ (ad : Addr) (a : Option Addr) (r : List Int) (c : Nat), A = some ad ∧ ad.block < w.heap.size ∧ w.cell? (ad.add j) = some (.slice a r.length c) ∧ Hd (rs[j]? = some r) ∧ r.length ≤ c ∧ Hd (RdI w .u64 a r) := by
 obtain ⟨cs, h1, h2⟩ := h
 obtain ⟨ad, e, hb, hc⟩ := h1.2 (by omega)
 obtain ⟨a, c, e2, hc2, hr⟩ := h2 j rs[j] (ai hj)
 exact ⟨ad, a, rs[j], c, e, hb, hc j _ e2, ⟨ai hj⟩, hc2, ⟨hr⟩⟩
def rowsVal : List (List Int) → Nat
 | [] => 0
 | r :: rs => val r + 18446744073709551616 * rowsVal rs
theorem rowsVal_snoc (rs : List (List Int)) (r : List Int) : rowsVal (rs ++ [r]) = rowsVal rs + 18446744073709551616 ^ rs.length * val r := by
 induction rs with
 | nil => simp [rowsVal]
 | cons x rs ih =>
   simp only [List.cons_append, rowsVal, ih, List.length_cons, Nat.pow_succ, Nat.mul_add]
   rw [show 18446744073709551616 ^ rs.length * 18446744073709551616 * val r = 18446744073709551616 * (18446744073709551616 ^ rs.length * val r) by rw [Nat.mul_comm (18446744073709551616 ^ rs.length), Nat.mul_assoc]]
   omega
theorem limb_sum (A : Option Addr) (c : Nat) (rs : List (List Int)) (w : World) (h : RdRows w A rs) (hn : rs.length ≤ c) (h6 : rs.length ≤ 100000000) (hr6 : ∀ r ∈ rs, r.length ≤ 100000000 ∧ U64 r) :
    Calls Tryz.prog 230 #[.slice A rs.length c] w fun e w' => ∃ v, e = .returned v ∧ OwnI w' w.heap.size 112 .u64 v (limbs (rowsVal rs)) ∧ Below w.heap.size w w' := by
 obtain ⟨i0, hi, hz0, hz1, hz2⟩ := info_split Tryz.infU64
 have H := aa h
 have HR6 := aa hr6
 clear h hr6
 go_enter Tryz.func230, Tryz.ntmps230
 go_wp2_with fail
 go_loopw [13] (fun v13 wr => ∃ (v : Value) (os : List Int) (f : Nat), v13 = .int .i64 f ∧ f ≤ rs.length ∧ Hd (Bk wr w.heap.size 61 #[v]) ∧ Hd (OwnI wr w.heap.size 112 .u64 v os) ∧ Hd (U64 os) ∧
     Hd (os.length ≤ 100000000 + f) ∧ Hd (Below w.heap.size w wr) ∧ Hd (val os = rowsVal (rs.take f))) (fun v _ => rs.length - (intOf v).toNat)
 case atStart => exact ⟨_, [], 0, rfl, by omega, ⟨Bk.new_ _ _ _⟩, ⟨OwnI.nil _ _ _ _⟩, ⟨.nil⟩, ⟨by simp⟩, ⟨(ag _ _).alloc (ae _) _⟩, ⟨by simp [val, rowsVal]⟩⟩
 case round =>
  obtain ⟨v, os, f, rfl, hf, hk0, hown, hu, hlen, hbel, hval⟩ := hrel
  obtain ⟨wo, rfl⟩ : ∃ wo : World, wo = wr := ⟨_, rfl⟩
  by_cases hlt : f < rs.length
  ·obtain ⟨ad, a, r, cr, rfl, hadb, hcellw, hr, hcr, hrd⟩ := H.out.get hlt
   have hcell := (hbel.out.cell (p := ad.add f) (by rw [add_block]; exact hadb)).trans hcellw
   clear hcellw hadb
   have hrdo := aa (hrd.out.up hbel.out)
   have hr7 := HR6.out r (List.mem_of_getElem? hr.out)
   have hr8 := hr7.1
   have hru := aa hr7.2
   clear hr7
   go_wp2_with fail
   refine (limb_trim a cr r wo hrdo.out hcr (by omega)).mono ?_
   rintro e w' ⟨rfl, rfl⟩
   obtain ⟨t, ht⟩ : ∃ t, t = trimL r := ⟨_, rfl⟩
   have HT := aa ht
   rw [← ht]
   have htl := trimL_len r
   rw [← ht] at htl
   have hrt := aa hrd.out.trim
   rw [← ht] at hrt
   have htu : Hd (U64 t) := ⟨by rw [ht, trimL_take]; exact hru.out.take _⟩
   have htv : Hd (val t = val r) := ⟨by rw [ht, val_trim]⟩
   clear ht hcell
   go_wp2_with fail
   have hwo := aa hbel.out.size
   go_loopg [29] (f + t.length - os.length) (fun g _ wr => ∃ (v2 : Value) (os2 : List Int), Hd (Bk wr w.heap.size 61 #[v2]) ∧ Hd (OwnI wr w.heap.size 112 .u64 v2 os2) ∧ Hd (U64 os2) ∧
    Hd (os2.length ≤ 100000000 + f) ∧ Hd (Below w.heap.size w wr) ∧ Hd (val os2 = val os) ∧ Hd (g = f + t.length - os2.length))
   case atStart => exact ⟨v, os, hk0, hown, hu, hlen, hbel, ⟨rfl⟩, ⟨rfl⟩⟩
   case round =>
    obtain ⟨v2, os2, hk2, hown2, hu2, hlen2, hbel2, hval2, hg⟩ := hrel
    obtain ⟨A5, c5, rfl, hc5, hm5, hr5⟩ := hown2.out.reads
    clear hr5
    have hc1 : wr.cell? ⟨w.heap.size, 0, none⟩ = some (.slice A5 os2.length c5) := by rw [hk2.out.cell 0]; rfl
    have hf1 := hk2.out.froz 0
    have hl9 := hlen2.out
    by_cases hlt2 : os2.length < f + t.length
    ·have hlt3 : (os2.length : Int) < f + t.length := by omega
     go_wp2_with (at_builtin; refine wpList_append_rd _ rfl _ _ 61 rfl w.heap.size 112 i0 (.int .u64 0) 1 8 Tryz.slU64 hi hz0 hz1 hz2 rfl (by decide) _ _ _ rfl (hown2.out.al _) _ _ 1 1 (ints .u64 [0]) rfl (Rd.new_ wr #[.int .u64 0] 112 1 1 rfl) (ints_one _ _) ?c1 ?c2 ?c3 ?_)
     case c1 => unfold maxLen; omega
     case c2 => omega
     case c3 => have := hbel2.out.size; simp; omega
     intro v' w' ho hg2 _
     have HO : Hd (OwnI w' w.heap.size 112 .u64 v' (os2 ++ [0])) := ⟨by unfold OwnI; rw [ints_app, List.length_append]; exact ho⟩
     have hk3 : Hd (Bk w' w.heap.size 61 #[.slice A5 os2.length c5]) := ⟨(hk2.out.al _).grown hg2 (fun e => own_ne hown2.out hk2.out (by decide) e.symm)⟩
     have hb3 : Hd (Below w.heap.size w w') := ⟨grown_below (hown2.out.al _) hg2 (hbel2.out.alloc hbel2.out.size _) (by have := hbel2.out.size; simp; omega)⟩
     have hc4 : w'.cell? ⟨w.heap.size, 0, none⟩ = some (.slice A5 os2.length c5) := by rw [hk3.out.cell 0]; rfl
     have hf4 := hk3.out.froz 0
     clear ho hg2
     obtain ⟨A8, c8, hv8, hc8, _, _⟩ := HO.out.reads
     rw [List.length_append, List.length_singleton] at hv8
     subst hv8
     go_wp2_with fail
     go_roundg (f + t.length - (os2.length + 1))
     case measure => have := hg.out; omega
     case rel =>
      exact ⟨_, os2 ++ [0], ⟨hk3.out.set_ 0 _⟩, ⟨HO.out.far (p := ⟨w.heap.size, 0, none⟩) (own_ne HO.out hk3.out (by decide)) _⟩, ⟨hu2.out.app (U64.nil.cons (by omega) (by omega))⟩, ⟨by simp; omega⟩, ⟨hb3.out.setCell (ae _) _⟩, ⟨by rw [val_snoc0]; exact hval2.out⟩, ⟨by simp⟩⟩
    ·have hlt3 : ¬ (os2.length : Int) < f + t.length := by omega
     go_wp2_with fail
     have hB2 := hbel2.out.size
     have hP1 := aa (Bk.new_ wr 112 #[.int .u64 0])
     have hne5 : (Value.slice A5 os2.length c5).ownBlock ≠ some wr.heap.size := by
      intro e
      have := (World.ownsRow.lt hown2.out _ e).2
      omega
     have hst : Hd (SumSt w.heap.size w.heap.size wr.heap.size (.slice A5 os2.length c5) (wr.alloc (.cells #[.int .u64 0] 112)) os2 0) :=
      ⟨⟨hk2.out.al _, hP1.out, hown2.out.al _, hne5, hu2.out, .inl rfl⟩⟩
     have hb4 : Hd (Below w.heap.size w (wr.alloc (.cells #[.int .u64 0] 112))) := ⟨hbel2.out.alloc hB2 _⟩
     obtain ⟨w2, rfl⟩ : ∃ w2 : World, w2 = wr := ⟨_, rfl⟩
     clear hP1 hne5 hc1 hf1 hm5 hc5
     go_loopw [33] (fun v33 wx => ∃ (os3 : List Int) (i : Nat) (cy : Int), v33 = .int .i64 i ∧ i ≤ t.length ∧ Hd (SumSt w.heap.size w.heap.size w2.heap.size (.slice A5 os2.length c5) wx os3 cy) ∧ Hd (os3.length = os2.length) ∧ Hd (Below w.heap.size w wx) ∧
      Hd (val os3 + 18446744073709551616 ^ (f + i) * cy.toNat = val os + 18446744073709551616 ^ f * val (t.take i))) (fun v _ => t.length - (intOf v).toNat)
     case atStart => exact ⟨os2, 0, 0, rfl, by omega, hst, ⟨rfl⟩, hb4, ⟨by rw [hval2.out]; simp [val]⟩⟩
     case round =>
      obtain ⟨os3, i, cy, rfl, hi3, hst3, hlen3, hbel3, hval3⟩ := hrel
      have hl3 := hlen3.out
      by_cases hlt4 : i < t.length
      ·have HT3 := aa (hrt.out.up hbel3.out)
       obtain ⟨bd, y, rfl, _, hy, hcy⟩ := HT3.out.get hlt4
       have hyu := htu.out.at_ i
       rw [hy.out] at hyu
       have hfi : f + i < os3.length := by omega
       have hP2 : w.heap.size ≤ w2.heap.size := hB2
       have CC := aa (sum_add w.heap.size w.heap.size w2.heap.size (f + i) ((f : Int) + i) (by omega) (.slice A5 os2.length c5) os3 y cy wr hst3.out hfi (by have := hlen2.out; omega) hyu hP2)
       go_wp2_with fail
       with_reducible refine (CC.out).mono ?_
       rintro e w3 ⟨rfl, s1, c1, q1, q2, q3, q4⟩
       have Q1 := aa q1
       have Q2 := aa q2
       have Q3 := aa q3
       clear q1 q2 q3 q4
       go_wp2_with fail
       go_roundw
       case measure => first | (simp [intOf]; done) | (simp [intOf]; omega)
       case rel =>
        refine ⟨_, i + 1, c1, by go_num, by omega, Q1, ⟨by rw [List.length_set]; exact hlen3.out⟩, ⟨hbel3.out.trans Q2.out⟩, ⟨?_⟩⟩
        rw [← Nat.add_assoc, Q3.out, val_take_succ, hy.out, Nat.mul_add, Nat.mul_add]
        have h8 := hval3.out
        rw [show 18446744073709551616 ^ f * (18446744073709551616 ^ i * y.toNat) = 18446744073709551616 ^ (f + i) * y.toNat by rw [Nat.pow_add, Nat.mul_assoc]]
        omega
      ·have hie : i = t.length := by omega
       subst hie
       go_wp2_with fail
       have hl2 := hlen2.out
       have hge2 : f + t.length ≤ os2.length := by omega
       have hP2 : w.heap.size ≤ w2.heap.size := hB2
       go_loopw [10] (fun v10 wx => ∃ (v4 : Value) (os4 : List Int) (i : Nat) (iI cy : Int), v10 = .int .i64 iI ∧ Hd (iI = i) ∧ Hd (SumSt w.heap.size w.heap.size w2.heap.size v4 wx os4 cy) ∧ Hd (os4.length = max os2.length i) ∧
        Hd (Below w.heap.size w wx) ∧ Hd (val os4 + 18446744073709551616 ^ i * cy.toNat = val os + 18446744073709551616 ^ f * val t) ∧ Hd (i ≤ os2.length ∨ cy = 0 ∧ i = os2.length + 1)) (fun v _ => os2.length + 2 - (intOf v).toNat)
       case atStart =>
        refine ⟨_, os3, f + t.length, (f : Int) + t.length, cy, rfl, ⟨by omega⟩, hst3, ⟨by omega⟩, hbel3, ⟨?_⟩, ⟨by omega⟩⟩
        have h8 := hval3.out
        rw [List.take_length] at h8
        exact h8
       case round =>
        clear hst3 hval3 hbel3 hlen3
        obtain ⟨v4, os4, i4, iI, cy4, rfl, hiI, hst4, hlen4, hbel4, hval4, hend4⟩ := hrel
        have hk1 : wr.cell? ⟨w2.heap.size, 0, none⟩ = some (.int .u64 cy4) := by rw [hst4.out.k1.cell 0]; rfl
        have hi4 : iI ≤ 1000000002 := by have := hiI.out; have := hend4.out; omega
        have hi40 : 0 ≤ iI := by have := hiI.out; omega
        by_cases hcy : 0 < cy4
        ·have hcy1 : cy4 ≤ 1 := by have := hst4.out.c01; omega
         obtain ⟨A6, c6, hv6, hc6, hm6, _⟩ := hst4.out.own.reads
         subst hv6
         have hk0b : wr.cell? ⟨w.heap.size, 0, none⟩ = some (.slice A6 os4.length c6) := by rw [hst4.out.k0.cell 0]; rfl
         have hf0b := hst4.out.k0.froz 0
         have HLTM := aa hcy
         have hlen9 : os4.length ≤ 1000000002 := by have := hend4.out; have := hlen4.out; omega
         by_cases heq : i4 = os4.length
         ·have hb : (iI == (os4.length : Int)) = true := by rw [beq_iff_eq]; have := hiI.out; omega
          have HEQ := aa heq
          clear heq
          go_wp2_with (at_builtin; refine wpList_append_rd _ rfl _ _ 61 rfl w.heap.size 112 i0 (.int .u64 0) 1 8 Tryz.slU64 hi hz0 hz1 hz2 rfl (by decide) _ _ _ rfl (hst4.out.own.al _) _ _ 1 1 (ints .u64 [0]) rfl (Rd.new_ wr #[.int .u64 0] 112 1 1 rfl) (ints_one _ _) ?d1 ?d2 ?d3 ?_)
          case d1 => unfold maxLen; omega
          case d2 => omega
          case d3 => have := hbel4.out.size; simp; omega
          intro v' w' ho hg2 hob
          have HO : Hd (OwnI w' w.heap.size 112 .u64 v' (os4 ++ [0])) := ⟨by unfold OwnI; rw [ints_app, List.length_append]; exact ho⟩
          have hk3 : Hd (Bk w' w.heap.size 61 #[.slice A6 os4.length c6]) := ⟨(hst4.out.k0.al _).grown hg2 (fun e => own_ne hst4.out.own hst4.out.k0 (by decide) e.symm)⟩
          have hk4 : Hd (Bk w' w2.heap.size 112 #[.int .u64 cy4]) := ⟨(hst4.out.k1.al _).grown hg2 (fun e => hst4.out.ne e.symm)⟩
          have hb3 : Hd (Below w.heap.size w w') := ⟨grown_below (hst4.out.own.al _) hg2 (hbel4.out.alloc hbel4.out.size _) (by have := hbel4.out.size; simp; omega)⟩
          have hc4 : w'.cell? ⟨w.heap.size, 0, none⟩ = some (.slice A6 os4.length c6) := by rw [hk3.out.cell 0]; rfl
          have hf4 := hk3.out.froz 0
          have hne : Hd (v'.ownBlock ≠ some w2.heap.size) := ⟨by
           rcases hob with h | h
           ·rw [h]; exact hst4.out.ne
           ·rw [h]; have := hst4.out.k1.lt; simp; omega⟩
          clear ho hg2 hob
          obtain ⟨A8, c8, hv8, hc8, _, _⟩ := HO.out.reads
          rw [List.length_append, List.length_singleton] at hv8
          subst hv8
          have h01 := Bk.ne_ hk3.out hk4.out (by decide)
          have STA : Hd (SumSt w.heap.size w.heap.size w2.heap.size (.slice A8 (os4.length + 1) c8) (w'.setCell ⟨w.heap.size, 0, none⟩ (.slice A8 (os4.length + 1) c8)) (os4 ++ [0]) cy4) :=
           ⟨⟨hk3.out.set_ 0 _, hk4.out.far (p := ⟨w.heap.size, 0, none⟩) (Ne.symm h01) _, HO.out.far (p := ⟨w.heap.size, 0, none⟩) (own_ne HO.out hk3.out (by decide)) _, hne.out, hst4.out.u.app (U64.nil.cons (by omega) (by omega)), hst4.out.c01⟩⟩
          have BELA : Hd (Below w.heap.size w (w'.setCell ⟨w.heap.size, 0, none⟩ (.slice A8 (os4.length + 1) c8))) := ⟨hb3.out.setCell (ae _) _⟩
          clear hb
          go_wp2_with fail
          with_reducible refine (sum_add w.heap.size w.heap.size w2.heap.size i4 iI hiI.out _ (os4 ++ [0]) 0 cy4 _ STA.out (by have := HEQ.out; simp; omega) (by simp; omega) (by omega) hP2).mono ?_
          rintro e w3 ⟨rfl, s1, c1, q1, q2, q3, q4⟩
          have Q1 := aa q1
          have Q2 := aa q2
          have Q3 := aa q3
          have Q4 := aa q4
          clear q1 q2 q3 q4
          go_wp2_with fail
          go_roundw
          case measure =>
              have z1 := hiI.out; have z2 := hend4.out; have z3 := HLTM.out
              show os2.length + 2 - (iI + 1).toNat < os2.length + 2 - iI.toNat
              omega
          case rel =>
           refine ⟨_, _, i4 + 1, _, c1, rfl, ⟨by have := hiI.out; omega⟩, Q1, ⟨by rw [List.length_set, List.length_append, List.length_singleton]; have := HEQ.out; have := hlen4.out; omega⟩, ⟨BELA.out.trans (Q2.out)⟩, ⟨?_⟩, ⟨?_⟩⟩
           ·rw [Q3.out]
            rw [val_snoc0]; simpa using hval4.out
           ·by_cases hM : i4 + 1 ≤ os2.length
            ·exact .inl hM
            ·have h1 := hend4.out
             have h2 := hlen4.out
             exact .inr ⟨Q4.out (by have := HEQ.out; simp; omega) (by rw [HEQ.out]; simp) (by first | trivial | rfl), by omega⟩
         ·have hb : (iI == (os4.length : Int)) = false := by rw [beq_eq_false_iff_ne]; have := hiI.out; omega
          go_wp2_with fail
          with_reducible refine (sum_add w.heap.size w.heap.size w2.heap.size i4 iI hiI.out _ os4 0 cy4 _ hst4.out (by have := hend4.out; have := hlen4.out; omega) (by omega) (by omega) hP2).mono ?_
          rintro e w3 ⟨rfl, s1, c1, q1, q2, q3, q4⟩
          have Q1 := aa q1
          have Q2 := aa q2
          have Q3 := aa q3
          have Q4 := aa q4
          clear q1 q2 q3 q4
          go_wp2_with fail
          go_roundw
          case measure =>
              have z1 := hiI.out; have z2 := hend4.out; have z3 := HLTM.out
              show os2.length + 2 - (iI + 1).toNat < os2.length + 2 - iI.toNat
              omega
          case rel =>
           refine ⟨_, _, i4 + 1, _, c1, rfl, ⟨by have := hiI.out; omega⟩, Q1, ⟨by rw [List.length_set]; have := hend4.out; have := hlen4.out; omega⟩, ⟨hbel4.out.trans (Q2.out)⟩, ⟨?_⟩, ⟨?_⟩⟩
           ·rw [Q3.out]
            simpa using hval4.out
           ·by_cases hM : i4 + 1 ≤ os2.length
            ·exact .inl hM
            ·have h1 := hend4.out
             have h2 := hlen4.out
             exfalso; omega
        ·have hcy0 : cy4 = 0 := by have := hst4.out.c01; omega
         subst hcy0
         go_wp2_with fail
         go_roundw
         case measure => first | (simp [intOf]; done) | (simp [intOf]; omega)
         case rel =>
          have h8 := hval4.out
          have h9 := hst4.out
          refine ⟨v4, os4, f + 1, by go_num, by omega, ⟨h9.k0⟩, ⟨h9.own⟩, ⟨h9.u⟩, ⟨by have := hlen4.out; have := hend4.out; have := hlen2.out; omega⟩, hbel4, ⟨?_⟩⟩
          have h10 : rs.take (f + 1) = rs.take f ++ [r] := by rw [List.take_add_one, hr.out]; rfl
          have h11 := hval.out
          have h12 := htv.out
          rw [h10, rowsVal_snoc, List.length_take, Nat.min_eq_left (by omega), ← h11, ← h12]
          simpa using h8
  ·have hfe : f = rs.length := by omega
   obtain ⟨A5, c5, rfl, hc5, hm5, hr5⟩ := hown.out.reads
   have HRD := aa hr5
   have hc1 : wo.cell? ⟨w.heap.size, 0, none⟩ = some (.slice A5 os.length c5) := by rw [hk0.out.cell 0]; rfl
   have hl9 := hlen.out
   clear hr5 hm5
   go_wp2_with fail
   refine (limb_trim A5 c5 os wo HRD.out hc5 (by omega)).mono ?_
   rintro e w' ⟨rfl, rfl⟩
   have tl := trimL_len os
   go_wp2_with fail
   refine (clone_u64 A5 c5 (trimL os) wo HRD.out.trim (by omega) (by omega)).mono ?_
   rintro e w' ⟨v, rfl, ho, hb⟩
   have HO := aa ho
   have HB := aa hb
   clear ho hb
   go_wp2_with fail
   go_ret
   refine ⟨_, rfl, ?_, hbel.out.trans (HB.out.mono hbel.out.size)⟩
   have h5 := hval.out
   rw [hfe, List.take_length] at h5
   rw [← h5, ← trim_limbs hu.out]
   exact HO.out.low hbel.out.size
end Go.Proofs.YtgjkgkgieeoalaaGreat
