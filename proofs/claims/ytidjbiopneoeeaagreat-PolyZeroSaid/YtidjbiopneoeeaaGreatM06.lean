/- Parts of the proof, joined: what each says stands at its head. -/
import Derived.Test.YtidjbiopneoeeaaGreatM05
import Derived.Laws.Externs
import Derived.RegionCalls
import Derived.Deep.RegionWith
set_option linter.unusedVariables false
set_option linter.unusedSimpArgs false
/- Walks of limb.Add and limb.Sub: the sum, and the difference, of two rows as naturals. The condition: rows of at most 1000000000 limbs. -/
namespace Go.Proofs.YtidjbiopneoeeaaGreat
open Go.RowKit

theorem add64 (x y c : Int) (hx : 0 ≤ x) (hy : 0 ≤ y) (hc0 : 0 ≤ c) (hc : c ≤ 1) (w : World) : (callFunc 214 #[.int .u64 x, .int .u64 y, .int .u64 c]).run Tryz.prog w =
    .ok (.value (.tuple #[.int .u64 ((x + y + c) % 18446744073709551616), .int .u64 ((x + y + c) / 18446744073709551616)])) w := by
  rw [run_callFunc_extern Tryz.func214 (by kernel_rfl) (by kernel_rfl) (by kernel_rfl) (e := add64Entry) (by kernel_rfl), run_add64 x y c hx hy hc0 hc]
  simp only [Result.andThen]

/-- one limb of a sum -/
theorem add_step {x b : List Int} {i : Nat} {c : Int} {va : Nat} (hi : i < x.length) (hx : U64 x) (hb : U64 b) (hc : c = 0 ∨ c = 1)
    (h : val x + 18446744073709551616 ^ i * c.toNat = va + val (b.take i)) :
    U64 (x.set i ((x.getD i 0 + b.getD i 0 + c) % 18446744073709551616)) ∧ ((x.getD i 0 + b.getD i 0 + c) / 18446744073709551616 = 0 ∨ (x.getD i 0 + b.getD i 0 + c) / 18446744073709551616 = 1) ∧
    val (x.set i ((x.getD i 0 + b.getD i 0 + c) % 18446744073709551616)) + 18446744073709551616 ^ (i + 1) * ((x.getD i 0 + b.getD i 0 + c) / 18446744073709551616).toNat = va + val (b.take (i + 1)) := by
  have h1 := hx.at_ i
  have h2 := hb.at_ i
  refine ⟨hx.set i (by omega) (by omega), by omega, ?_⟩
  have h3 := val_set x i hi ((x.getD i 0 + b.getD i 0 + c) % 18446744073709551616)
  rw [val_take_succ, Nat.pow_succ]
  generalize val (x.set i ((x.getD i 0 + b.getD i 0 + c) % 18446744073709551616)) = z at *
  generalize 18446744073709551616 ^ i = p at *
  generalize x.getD i 0 = xi at *
  generalize b.getD i 0 = yi at *
  have e : ((xi + yi + c) % 18446744073709551616).toNat + 18446744073709551616 * ((xi + yi + c) / 18446744073709551616).toNat = xi.toNat + yi.toNat + c.toNat := by omega
  have e2 := congrArg (p * ·) e
  simp only [Nat.mul_add] at e2
  rw [← Nat.mul_assoc] at e2
  generalize p * ((xi + yi + c) % 18446744073709551616).toNat = q1 at *
  generalize p * 18446744073709551616 * ((xi + yi + c) / 18446744073709551616).toNat = q2 at *
  omega

/-- one limb of a difference -/
theorem sub_step {x b : List Int} {i : Nat} {c s c' : Int} {va : Nat} (hi : i < x.length) (hx : U64 x) (hb : U64 b) (hc : c = 0 ∨ c = 1)
    (hs : s = (x.getD i 0 - b.getD i 0 - c) % 18446744073709551616) (hc' : c' = if x.getD i 0 < b.getD i 0 + c then 1 else 0)
    (h : val x + val (b.take i) = va + 18446744073709551616 ^ i * c.toNat) :
    U64 (x.set i s) ∧ (c' = 0 ∨ c' = 1) ∧ val (x.set i s) + val (b.take (i + 1)) = va + 18446744073709551616 ^ (i + 1) * c'.toNat := by
  have h1 := hx.at_ i
  have h2 := hb.at_ i
  have hs0 : 0 ≤ s ∧ s < 18446744073709551616 := by omega
  refine ⟨hx.set i hs0.1 hs0.2, by split at hc' <;> omega, ?_⟩
  have h3 := val_set x i hi s
  rw [val_take_succ, Nat.pow_succ]
  generalize val (x.set i s) = z at *
  generalize 18446744073709551616 ^ i = p at *
  generalize x.getD i 0 = xi at *
  generalize b.getD i 0 = yi at *
  have e : s.toNat + yi.toNat + c.toNat = xi.toNat + 18446744073709551616 * c'.toNat := by split at hc' <;> omega
  have e2 := congrArg (p * ·) e
  simp only [Nat.mul_add] at e2
  rw [← Nat.mul_assoc] at e2
  generalize p * s.toNat = q1 at *
  generalize p * 18446744073709551616 * c'.toNat = q2 at *
  omega

theorem sub_end {x l m : List Int} {n : Nat} {c : Int} (hx : U64 x) (hl : U64 l) (_hm : U64 m) (hn : x.length = n) (hln : val l < 18446744073709551616 ^ n) (hc : c = 0 ∨ c = 1) (hle : val m ≤ val l)
    (h : val x + val (m.take n) = val l + 18446744073709551616 ^ n * c.toNat) : val x = val l - val m := by
  have h1 := val_lt hx
  rw [hn] at h1
  have hm : val (m.take n) = val m := by
    rcases Nat.lt_or_ge n m.length with h2 | h2
    · have h3 := val_take_drop m n (by omega)
      rcases Nat.eq_zero_or_pos (val (m.drop n)) with h4 | h4
      · rw [h4] at h3; omega
      · have := Nat.mul_le_mul_left (18446744073709551616 ^ n) h4
        generalize 18446744073709551616 ^ n * val (m.drop n) = q at *
        omega
    · rw [List.take_of_length_le h2]
  rw [hm] at h
  rcases hc with rfl | rfl
  · simp at h; omega
  · simp at h; omega

set_option maxHeartbeats 1000000 in
set_option maxRecDepth 100000 in
theorem limb_Add (A B : Option Addr) (c d : Nat) (l m : List Int) (w : World) (h : RdI w .u64 A l) (hn : l.length ≤ c) (hb9 : l.length ≤ 1000000000)
    (h' : RdI w .u64 B m) (hn' : m.length ≤ d) (hb9' : m.length ≤ 1000000000) (hu : U64 l) (hu' : U64 m) :
    Calls Tryz.prog 209 #[.slice A l.length c, .slice B m.length d] w fun e w' => ∃ v, e = .returned v ∧ OwnI w' w.heap.size 106 .u64 v (limbs (val l + val m)) ∧ Below w.heap.size w w' := by
  obtain ⟨i0, hi, hz0, hz1, hz2⟩ := info_split Tryz.infU64
  have t1 := trimL_len l
  have V1 : Hd (U64 (trimL l)) := ⟨by rw [trimL_take]; exact hu.take _⟩
  have E1 := Hd.mk (val_trim l)
  go_enter Tryz.func209, Tryz.ntmps209
  go_wp2_with fail
  refine (limb_trim A c l w h hn (by omega)).mono ?_
  rintro e w' ⟨rfl, rfl⟩
  by_cases h0 : (trimL l).length = 0
  · have hz : (((trimL l).length : Int) == 0) = true := by rw [beq_iff_eq]; omega
    have H0 := Hd.mk h0
    clear h0
    go_wp2_with fail
    refine (limb_Trim B d m w h' hn' hb9').mono ?_
    rintro e w' ⟨v, rfl, ho, hb⟩
    have HO := Hd.mk ho
    have HB := Hd.mk hb
    clear ho hb
    go_wp2_with fail
    go_ret
    refine ⟨_, rfl, ?_, HB.out⟩
    have e0 : trimL l = [] := List.eq_nil_of_length_eq_zero H0.out
    have e1 := E1.out
    rw [e0] at e1
    rw [← e1, val, Nat.zero_add, ← trim_limbs hu']
    exact HO.out
  · have hz : (((trimL l).length : Int) == 0) = false := by rw [beq_eq_false_iff_ne]; omega
    clear h0
    go_wp2_with fail
    refine (limb_Trim A c l w h hn hb9).mono ?_
    rintro e w' ⟨v, rfl, ho, hb⟩
    have HO := Hd.mk ho
    have HB := Hd.mk hb
    have H' := Hd.mk (h'.up hb)
    have HU := Hd.mk h'
    clear ho hb hz h h'
    obtain ⟨t, htt⟩ : ∃ t, t = (trimL l).length := ⟨_, rfl⟩
    have HT := Hd.mk htt
    rw [← htt] at t1
    clear htt
    go_wp2_with fail
    go_loopg [5, 6, 7] (max t m.length + 2) (fun g vx vc vi wr => ∃ (xs : List Int) (i : Nat) (cy : Int), vc = .int .u64 cy ∧ vi = .int .i64 i ∧ Hd (cy = 0 ∨ cy = 1) ∧ Hd (OwnI wr w.heap.size 106 .u64 vx xs) ∧ Hd (Below w.heap.size w wr) ∧ Hd (U64 xs) ∧
      Hd (val xs + 18446744073709551616 ^ i * cy.toNat = val l + val (m.take i)) ∧ Hd (xs.length = max t i) ∧ Hd (i ≤ max t m.length ∨ cy = 0 ∧ i = max t m.length + 1) ∧ Hd (g + i = max t m.length + 2))
    case atStart => exact ⟨trimL l, 0, 0, rfl, rfl, ⟨.inl rfl⟩, ⟨HO.out⟩, ⟨HB.out⟩, V1, ⟨by rw [E1.out]; simp [val]⟩, ⟨by rw [HT.out]; simp⟩, ⟨.inl (by omega)⟩, ⟨by omega⟩⟩
    case round =>
      obtain ⟨xs, i, cy, rfl, rfl, hcy, hown, hbel, hxu, hval, hlen, hend, hg⟩ := hrel
      have hi9 : i ≤ 1000000001 := by have := hend.out; omega
      obtain ⟨gk, rfl⟩ : ∃ g1, gk = g1 + 1 := ⟨gk - 1, by have := hend.out; have := hg.out; omega⟩
      by_cases hgo : i < m.length ∨ cy = 1
      · have HG := Hd.mk hgo
        have hgo2 : decide (i < m.length) = true ∨ (decide (i < m.length) = false ∧ decide (0 < cy) = true) := by
          by_cases hq : i < m.length
          · exact .inl (decide_eq_true hq)
          · exact .inr ⟨decide_eq_false hq, decide_eq_true (by omega)⟩
        have hx9 : xs.length ≤ 1000000001 := by have := hlen.out; omega
        have hcy01 : 0 ≤ cy ∧ cy ≤ 1 := by have := hcy.out; omega
        clear hgo
        obtain ⟨A5, c5, rfl, hc5, hm5, hr5⟩ := hown.out.reads
        have HR5 := Hd.mk hr5
        clear hr5
        rcases hgo2 with hd | ⟨hd, hd2⟩
        all_goals
          go_upto_if 30 with (fail)
          go_cut [5] (fun v5 wx => ∃ ys : List Int, Hd (i < ys.length) ∧ Hd (ys.length = max t (i + 1)) ∧ Hd (U64 ys) ∧ Hd (val ys = val xs) ∧ Hd (xs.length ≤ i → ys.getD i 0 = 0) ∧ Hd (OwnI wx w.heap.size 106 .u64 v5 ys) ∧ Hd (Below w.heap.size w wx))
          case first =>
            by_cases hx : i < xs.length
            · have hxb : decide (xs.length ≤ i) = false := by rw [decide_eq_false_iff_not]; omega
              go_wp2
              go_meet
              exact ⟨xs, ⟨hx⟩, ⟨by have := hlen.out; omega⟩, hxu, ⟨rfl⟩, ⟨fun h => by omega⟩, hown, hbel⟩
            · have hxb : decide (xs.length ≤ i) = true := by rw [decide_eq_true_iff]; omega
              go_wp2_with (at_builtin; go_loud (refine wpList_append_rd _ rfl _ _ 60 rfl w.heap.size 106 i0 (.int .u64 0) 1 8 Tryz.slU64 hi hz0 hz1 hz2 rfl (by decide) _ _ _ rfl (hown.out.al _) _ _ 1 1 (ints .u64 [0]) rfl (Rd.new_ wr #[.int .u64 0] 106 1 1 rfl) (ints_one _ _) ?c1 ?c2 ?c3 ?_))
              case c1 => unfold maxLen; omega
              case c2 => omega
              case c3 => have := hbel.out.size; simp; omega
              intro v' w' ho hg _
              go_wp2
              go_meet
              have hxi : xs.length = i := by have := hlen.out; omega
              have ho2 : OwnI w' w.heap.size 106 .u64 v' (xs ++ [0]) := by
                unfold OwnI; rw [ints_app, List.length_append]; exact ho
              have hB := hbel.out.size
              exact ⟨xs ++ [0], ⟨by simp; omega⟩, ⟨by have := hlen.out; simp; omega⟩, ⟨hxu.out.app (U64.nil.cons (by omega) (by omega))⟩, ⟨val_snoc0 xs⟩, ⟨fun _ => by rw [← hxi]; simp⟩, ⟨ho2⟩,
                ⟨grown_below (hown.out.al _) hg (hbel.out.alloc hB _) (by simp; omega)⟩⟩
          case rest =>
            obtain ⟨ys, hy1, hy2, hyu, hyv, hyz, hyo, hyb⟩ := hcut
            clear hown HR5
            have HM := Hd.mk (HU.out.up hyb.out)
            obtain ⟨g, c6, x, rfl, hg1, hg2, hx, hcell, hfro, hset⟩ := hyo.out.cell hy1.out
            have HS := Hd.mk hset
            clear hset
            go_upto_if 37 with (fail)
            go_cut [8] (fun v8 wx => v8 = .int .u64 (m.getD i 0) ∧ wx = wc)
            case first =>
              by_cases hlt : i < m.length
              · obtain ⟨bd, y, rfl, _, hy, hcb⟩ := HM.out.get hlt
                have hd3 : decide (i < m.length) = true := decide_eq_true hlt
                first
                | exact absurd hlt (of_decide_eq_false hd)
                | (go_wp2; go_meet; exact ⟨by rw [hy.out], rfl⟩)
              · have hd3 : decide (i < m.length) = false := decide_eq_false hlt
                first
                | exact absurd (of_decide_eq_true hd) hlt
                | (go_wp2; go_meet; exact ⟨by rw [getD_out (by omega)], rfl⟩)
            case rest =>
              obtain ⟨rfl, rfl⟩ := hcut
              obtain ⟨y, hy⟩ : ∃ y, m.getD i 0 = y := ⟨_, rfl⟩
              have hy0 := hu'.at_ i
              have hx0 := hyu.out.at_ i
              rw [hx.out] at hx0
              rw [hy] at hy0
              have HY := Hd.mk hy
              rw [hy]
              clear hy
              have hi2 := hy1.out
              go_wp2_with (simp only [add64 x y cy hx0.1 hy0.1 hcy01.1 hcy01.2])
              go_roundg gk
              case measure => omega
              case rel =>
                have hst := add_step (b := m) (c := cy) (va := val l) hi2 hyu.out hu' hcy.out (by rw [hyv.out]; exact hval.out)
                rw [hx.out, HY.out] at hst
                obtain ⟨q1, q2, q3⟩ := hst
                refine ⟨_, i + 1, _, rfl, by go_num, ⟨q2⟩, ⟨HS.out _⟩, ⟨hyb.out.setCell hg1 _⟩, ⟨q1⟩, ⟨q3⟩, ⟨by rw [List.length_set]; exact hy2.out⟩, ⟨?_⟩, ⟨by have := hg.out; omega⟩⟩
                by_cases hM : i + 1 ≤ max t m.length
                · exact .inl hM
                · have h1 := hend.out
                  have h2 := HG.out
                  have h3 := hlen.out
                  have hxz : x = 0 := by rw [← hx.out]; exact hyz.out (by omega)
                  have hyz : y = 0 := by rw [← HY.out]; exact getD_out (by omega)
                  subst hxz hyz
                  refine .inr ⟨by omega, by omega⟩
      · have hd : decide (i < m.length) = false := decide_eq_false (by omega)
        have hc0 : cy = 0 := by have := hcy.out; omega
        subst hc0
        obtain ⟨A5, c5, rfl, hc5, hm5, hr5⟩ := hown.out.reads
        have HR5 := Hd.mk hr5
        clear hr5
        go_wp2_with fail
        refine (limb_trim A5 c5 xs wr HR5.out hc5 (by have := hlen.out; omega)).mono ?_
        rintro e w2 ⟨rfl, rfl⟩
        go_wp2_with fail
        go_ret
        refine ⟨_, rfl, ?_, hbel.out⟩
        have h5 := hval.out
        rw [List.take_of_length_le (by omega)] at h5
        simp at h5
        rw [← h5, ← trim_limbs hxu.out]
        have h6 := hown.out.pre (trimL_len xs)
        rw [← trimL_take] at h6
        exact h6
end Go.Proofs.YtidjbiopneoeeaaGreat
/- Walks of the closures of limb.Sub and limb.sum: one limb, and the carry. No condition but that the cells are there. -/
namespace Go.Proofs.YtidjbiopneoeeaaGreat
open Go.RowKit

def bor (x y b : Int) : Int := if x < y + b then 1 else 0
theorem bor01 (x y b : Int) : 0 ≤ bor x y b ∧ bor x y b ≤ 1 := by unfold bor; split <;> omega
def sub64Entry : Array Value → Sem Value := fun args => do
  let (x, y, b) ← Extern.MathBitsCarry.three "Sub64" args
  pure (Extern.MathBitsCarry.pair ((x + Extern.MathBitsCarry.m64 - y - b) % Extern.MathBitsCarry.m64) (if x < y + b then 1 else 0))
theorem run_sub64' {P : Program} (x y b : Nat) (hb : b ≤ 1) (w : World) :
    (sub64Entry #[.int .u64 x, .int .u64 y, .int .u64 b]).run P w =
      .ok (.tuple #[.int .u64 (((x + 18446744073709551616 - y - b) % 18446744073709551616 : Nat) : Int), .int .u64 ((if x < y + b then 1 else 0 : Nat) : Int)]) w := by
  have : b = 0 ∨ b = 1 := by omega
  rcases this with rfl | rfl <;> rfl
theorem sub64 (x y b : Int) (hx : 0 ≤ x) (hy : 0 ≤ y) (hy' : y < 18446744073709551616) (hb0 : 0 ≤ b) (hb : b ≤ 1) (w : World) : (callFunc 247 #[.int .u64 x, .int .u64 y, .int .u64 b]).run Tryz.prog w =
    .ok (.value (.tuple #[.int .u64 ((x - y - b) % 18446744073709551616), .int .u64 (bor x y b)])) w := by
  obtain ⟨x, rfl⟩ := Int.eq_ofNat_of_zero_le hx
  obtain ⟨y, rfl⟩ := Int.eq_ofNat_of_zero_le hy
  obtain ⟨b, rfl⟩ := Int.eq_ofNat_of_zero_le hb0
  have e1 : (((x + 18446744073709551616 - y - b) % 18446744073709551616 : Nat) : Int) = ((x : Int) - y - b) % 18446744073709551616 := by omega
  have e2 : ((if x < y + b then 1 else 0 : Nat) : Int) = bor x y b := by unfold bor; split <;> split <;> omega
  rw [← e1, ← e2, run_callFunc_extern Tryz.func247 (by kernel_rfl) (by kernel_rfl) (by kernel_rfl) (e := sub64Entry) (by kernel_rfl), run_sub64' x y b (by omega)]
  simp only [Result.andThen]

set_option maxHeartbeats 1000000 in
set_option maxRecDepth 100000 in
theorem sum_1 (g gs gc i n c : Nat) (x y cy : Int) (w : World) (hi : i < n) (hn9 : n ≤ 2000000000)
    (h1 : w.cell? ⟨gs, 0, none⟩ = some (.slice (some ⟨g, 0, none⟩) n c)) (h2 : w.cell? ⟨g, i, none⟩ = some (.int .u64 x)) (h3 : w.cell? ⟨gc, 0, none⟩ = some (.int .u64 cy))
    (f2 : w.frozen? ⟨g, i, none⟩ = false) (f3 : w.frozen? ⟨gc, 0, none⟩ = false) (hne : g ≠ gc)
    (hx : 0 ≤ x) (hy : 0 ≤ y) (hc0 : 0 ≤ cy) (hc1 : cy ≤ 1) :
    Calls Tryz.prog 248 #[.int .i64 i, .int .u64 y, .pointer (some ⟨gs, 0, none⟩), .pointer (some ⟨gc, 0, none⟩)] w fun e w' => e = .returned (.tuple #[]) ∧
      w' = ((w.setCell ⟨g, i, none⟩ (.int .u64 ((x + y + cy) % 18446744073709551616))).setCell ⟨gc, 0, none⟩ (.int .u64 ((x + y + cy) / 18446744073709551616))).drew := by
  have hi2 : (i : Int) < n := by omega
  go_enter Tryz.func248, Tryz.ntmps248
  go_wp2_with fail
  have ha := add64 x y cy hx hy hc0 hc1
  go_region
  go_end0
  exact ⟨rfl, rfl⟩

set_option maxHeartbeats 1000000 in
set_option maxRecDepth 100000 in
theorem sub_1 (g gs gc i n c : Nat) (x y cy : Int) (w : World) (hi : i < n) (hn9 : n ≤ 2000000000)
    (h1 : w.cell? ⟨gs, 0, none⟩ = some (.slice (some ⟨g, 0, none⟩) n c)) (h2 : w.cell? ⟨g, i, none⟩ = some (.int .u64 x)) (h3 : w.cell? ⟨gc, 0, none⟩ = some (.int .u64 cy))
    (f2 : w.frozen? ⟨g, i, none⟩ = false) (f3 : w.frozen? ⟨gc, 0, none⟩ = false) (hne : g ≠ gc)
    (hx : 0 ≤ x) (hy : 0 ≤ y) (hy2 : y < 18446744073709551616) (hc0 : 0 ≤ cy) (hc1 : cy ≤ 1) :
    Calls Tryz.prog 246 #[.int .i64 i, .int .u64 y, .pointer (some ⟨gs, 0, none⟩), .pointer (some ⟨gc, 0, none⟩)] w fun e w' => e = .returned (.tuple #[]) ∧
      w' = ((w.setCell ⟨g, i, none⟩ (.int .u64 ((x - y - cy) % 18446744073709551616))).setCell ⟨gc, 0, none⟩ (.int .u64 (bor x y cy))).drew := by
  have hi2 : (i : Int) < n := by omega
  have ha := sub64 x y cy hx hy hy2 hc0 hc1
  go_enter Tryz.func246, Tryz.ntmps246
  go_wp2_with fail
  go_region
  go_end0
  exact ⟨rfl, rfl⟩

set_option maxHeartbeats 1000000 in
set_option maxRecDepth 100000 in
theorem limb_Sub_lt (A B : Option Addr) (c d : Nat) (l m : List Int) (w : World) (h : RdI w .u64 A l) (hn : l.length ≤ c) (hb9 : l.length ≤ 1000000000)
    (h' : RdI w .u64 B m) (hn' : m.length ≤ d) (hb9' : m.length ≤ 1000000000) (hu : U64 l) (hu' : U64 m) (hlt : val l < val m) :
    Calls Tryz.prog 211 #[.slice A l.length c, .slice B m.length d] w fun e w' => e = .returned (.tuple #[.slice none 0 0, .bool false]) ∧ Dr w w' := by
  have e0 := cmpN_lt hlt
  have C := limb_Cmp A B c d l m w h hn hb9 h' hn' hb9' hu hu'
  rw [e0] at C
  go_enter Tryz.func211, Tryz.ntmps211
  go_wp2_with fail
  refine C.mono ?_
  rintro e w' ⟨rfl, hw⟩
  go_wp2_with fail
  go_ret2
  exact ⟨rfl, hw⟩

set_option maxHeartbeats 1000000 in
set_option maxRecDepth 100000 in
theorem limb_Sub_ge (A B : Option Addr) (c d : Nat) (l m : List Int) (w : World) (h : RdI w .u64 A l) (hn : l.length ≤ c) (hb9 : l.length ≤ 1000000000)
    (h' : RdI w .u64 B m) (hn' : m.length ≤ d) (hb9' : m.length ≤ 1000000000) (hu : U64 l) (hu' : U64 m) (hge : val m ≤ val l) :
    Calls Tryz.prog 211 #[.slice A l.length c, .slice B m.length d] w fun e w' => ∃ v, e = .returned (.tuple #[v, .bool true]) ∧ OwnI w' w.heap.size 106 .u64 v (limbs (val l - val m)) ∧ Below w.heap.size w w' := by
  have C : Calls Tryz.prog 210 #[.slice A l.length c, .slice B m.length d] w fun e w' => (∃ r : Int, 0 ≤ r ∧ e = .returned (.int .i64 r)) ∧ Dr w w' :=
    (limb_Cmp A B c d l m w h hn hb9 h' hn' hb9' hu hu').mono fun e w' ⟨he, hw⟩ => ⟨⟨_, by unfold cmpN; split <;> (try split) <;> omega, he⟩, hw⟩
  have HGE := Hd.mk hge
  clear hge
  have tl := trimL_len l
  have E1 := Hd.mk (val_trim l)
  have U1 : Hd (U64 (trimL l)) := ⟨by rw [trimL_take]; exact hu.take _⟩
  go_enter Tryz.func211, Tryz.ntmps211
  go_wp2_with fail
  refine C.mono ?_
  rintro e w' ⟨⟨r, hr, rfl⟩, hw⟩
  have hr2 : decide (r < 0) = false := decide_eq_false (by omega)
  have HW := Hd.mk hw.below
  have h1 := Hd.mk (h.up hw.below)
  have h2 := Hd.mk (h'.up hw.below)
  have HM0 := Hd.mk h'
  have hsz := hw.below.size
  clear hw h h' C
  go_wp2_with fail
  refine (limb_Trim A c l w' h1.out hn hb9).mono ?_
  rintro e w2 ⟨v, rfl, ho, hb⟩
  have HO := Hd.mk (ho.low hsz)
  have HB := Hd.mk (HW.out.trans (hb.mono hsz))
  have h3 := Hd.mk (h2.out.up hb)
  clear ho hb hsz h1 h2 hr hr2
  obtain ⟨x0, hx0⟩ : ∃ x0, x0 = trimL l := ⟨_, rfl⟩
  rw [← hx0] at HO E1 U1 tl
  have hl9 : x0.length ≤ 1000000000 := by omega
  clear hx0
  obtain ⟨A1, c1, rfl, hc1, hm1, hr1⟩ := HO.out.reads
  clear hr1 hc1 hm1
  go_wp2_with fail
  have LT := Hd.mk (fun k hk => (World.ownsRow.lt HO.out k hk).2)
  have hne1 : w2.heap.size ≠ w2.heap.size + 1 := by omega
  have hbase := Hd.mk HB.out.size
  go_loopw [19] (fun v19 wr => ∃ (xs : List Int) (i : Nat) (b : Int), v19 = .int .i64 i ∧ i ≤ x0.length ∧ Hd (xs.length = x0.length) ∧ Hd (b = 0 ∨ b = 1) ∧ Hd (Bk wr w2.heap.size 60 #[.slice A1 x0.length c1]) ∧
      Hd (Bk wr (w2.heap.size + 1) 106 #[.int .u64 b]) ∧ Hd (OwnI wr w.heap.size 106 .u64 (.slice A1 x0.length c1) xs) ∧ Hd (Below w.heap.size w wr) ∧ Hd (U64 xs) ∧
      Hd (val xs + val (m.take i) = val l + 18446744073709551616 ^ i * b.toNat)) (fun v _ => x0.length - (intOf v).toNat)
  case atStart =>
    refine ⟨x0, 0, 0, rfl, by omega, ⟨rfl⟩, ⟨.inl rfl⟩, ⟨(Bk.new_ _ _ _).al _⟩, ⟨?_⟩, ⟨(HO.out.al _).al _⟩, ⟨(HB.out.alloc hbase.out _).alloc (by have := hbase.out; simp; omega) _⟩, U1, ⟨by rw [E1.out]; simp [val]⟩⟩
    have := Bk.new_ (w2.alloc (.cells #[.slice A1 x0.length c1] 60)) 106 #[.int .u64 0]
    rwa [World.size_alloc] at this
  case round =>
    obtain ⟨xs, i, b, rfl, hi, hlen, hb01, hk1, hk2, hown, hbel, hxu, heq⟩ := hrel
    by_cases hlt : i < x0.length
    · obtain ⟨g, c6, x, hv, hg1, hg2, hx, hcell, hfro, hset⟩ := hown.out.cell (i := i) (by have := hlen.out; omega)
      injection hv with hv1 hv2 hv3
      subst hv1 hv3
      have hgl := LT.out g rfl
      have HS := Hd.mk hset
      have hc1 := hk1.out.cell 0
      have hc2 := hk2.out.cell 0
      have hf2 := hk2.out.froz 0
      have hx0 := hxu.out.at_ i
      rw [hx.out] at hx0
      obtain ⟨y, hy⟩ : ∃ y, m.getD i 0 = y := ⟨_, rfl⟩
      have hy0 := hu'.at_ i
      rw [hy] at hy0
      have HY := Hd.mk hy
      have hb2 := hb01.out
      have CC := Hd.mk (sub_1 g w2.heap.size (w2.heap.size + 1) i x0.length c1 x y b wr hlt (by omega) (by simpa using hc1) hcell (by simpa using hc2) hfro hf2 (by omega) hx0.1 hy0.1 hy0.2 (by omega) (by omega))
      have HM := Hd.mk (HM0.out.up hbel.out)
      clear hset hc1 hc2 hf2 hy hb2 hx0 hy0 hcell hfro hv2
      by_cases hlm : i < m.length
      · obtain ⟨bd, y2, rfl, _, hy2, hcb⟩ := HM.out.get hlm
        have hyy : y2 = y := by rw [← hy2.out, HY.out]
        subst hyy
        go_wp2_with fail
        refine CC.out.mono ?_
        rintro e w3 ⟨rfl, rfl⟩
        go_wp2_with fail
        go_roundw
        case measure => first | (simp [intOf]; done) | (simp [intOf]; omega)
        case rel =>
          obtain ⟨q1, q2, q3⟩ := sub_step (s := (x - y2 - b) % 18446744073709551616) (c' := bor x y2 b) (c := b) (va := val l) (by have := hlen.out; omega) hxu.out hu' hb01.out (by rw [hx.out, HY.out]) (by rw [hx.out, HY.out]; rfl) heq.out
          exact ⟨_, i + 1, _, by go_num, by omega, ⟨by rw [List.length_set]; exact hlen.out⟩, ⟨q2⟩, ⟨(((hk1.out.far (p := ⟨g, i, none⟩) (by simp; omega) _).far (p := ⟨w2.heap.size + 1, 0, none⟩) (by simp) _).d1)⟩, ⟨((hk2.out.far (p := ⟨g, i, none⟩) (by simp; omega) _).set_ 0 _).d1⟩,
            ⟨by have := hlen.out; rw [← hlen.out]; exact (((HS.out _).far (p := ⟨w2.heap.size + 1, 0, none⟩) (by simp [Value.ownBlock]; omega) _).d1)⟩, ⟨((hbel.out.setCell hg1 _).setCell (by have := hbase.out; simp; omega) _).drew⟩, ⟨q1⟩, ⟨q3⟩⟩
      · have hyy : y = 0 := by rw [← HY.out]; exact getD_out (by omega)
        subst hyy
        go_wp2_with fail
        refine CC.out.mono ?_
        rintro e w3 ⟨rfl, rfl⟩
        go_wp2_with fail
        go_roundw
        case measure => first | (simp [intOf]; done) | (simp [intOf]; omega)
        case rel =>
          obtain ⟨q1, q2, q3⟩ := sub_step (s := (x - b) % 18446744073709551616) (c' := bor x 0 b) (c := b) (va := val l) (by have := hlen.out; omega) hxu.out hu' hb01.out (by rw [hx.out, HY.out, Int.sub_zero]) (by rw [hx.out, HY.out]; rfl) heq.out
          exact ⟨_, i + 1, _, by go_num, by omega, ⟨by rw [List.length_set]; exact hlen.out⟩, ⟨q2⟩, ⟨(((hk1.out.far (p := ⟨g, i, none⟩) (by simp; omega) _).far (p := ⟨w2.heap.size + 1, 0, none⟩) (by simp) _).d1)⟩, ⟨((hk2.out.far (p := ⟨g, i, none⟩) (by simp; omega) _).set_ 0 _).d1⟩,
            ⟨by have := hlen.out; rw [← hlen.out]; exact (((HS.out _).far (p := ⟨w2.heap.size + 1, 0, none⟩) (by simp [Value.ownBlock]; omega) _).d1)⟩, ⟨((hbel.out.setCell hg1 _).setCell (by have := hbase.out; simp; omega) _).drew⟩, ⟨q1⟩, ⟨q3⟩⟩
    · have hc1 : wr.cell? ⟨w2.heap.size, 0, none⟩ = some (.slice A1 x0.length c1) := by rw [hk1.out.cell 0]; rfl
      have hie : i = x0.length := by omega
      obtain ⟨A7, c7, hv, hc7, hm7, hr7⟩ := hown.out.reads
      injection hv with hv1 hv2 hv3
      subst hv1 hv3
      have HR := Hd.mk hr7
      have HL2 := hlen.out
      clear hr7 hv2
      have CC := Hd.mk (fun W h => limb_trim A1 c1 xs W h hc7 (by omega))
      rw [HL2] at CC
      go_wp2_with fail
      refine (CC.out _ HR.out).mono ?_
      rintro e w3 ⟨rfl, rfl⟩
      go_wp2_with fail
      go_ret2
      refine ⟨_, rfl, ?_, hbel.out⟩
      have hvl := val_lt U1.out
      rw [E1.out] at hvl
      have h5 := sub_end hxu.out hu hu' hlen.out hvl hb01.out HGE.out (by rw [← hie]; exact heq.out)
      rw [← h5, ← trim_limbs hxu.out]
      have h6 := hown.out.pre (trimL_len xs)
      rw [← trimL_take] at h6
      exact h6
end Go.Proofs.YtidjbiopneoeeaaGreat
