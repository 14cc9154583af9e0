/- Parts of the proof, joined: what each says stands at its head. -/
import Derived.Test.YtjanagclahkfdaaGreatM58
import Derived.Test.YtjanagclahkfdaaGreatM56
import Derived.Test.YtjanagclahkfdaaGreatM36
import Derived.Test.YtjanagclahkfdaaGreatM57
set_option linter.unusedVariables false
set_option linter.unusedSimpArgs false
set_option maxHeartbeats 24000000
set_option maxRecDepth 100000
namespace Go.Proofs.YtjanagclahkfdaaGreat
open Go.RowKit
def uselessD (ls : List MonD) (x : Int × Int) (ps : List (Int × Int)) : Bool := apartD ls x || chainD ls x ps
theorem pair_Useless (A B : Option Addr) (c d : Nat) (ls : List MonD) (x y : Int) (ps : List (Int × Int)) (w : World) (h : RMons w A ls) (hl : ls.length ≤ 1000000) (hp : RPrs w B ps) (hpl : ps.length ≤ 1000000) :
    Calls Tryz.prog 41 #[.slice A ls.length c, .agg #[.int .i64 x, .int .i64 y], .slice B ps.length d] w fun e w' => e = .returned (.bool (uselessD ls (x, y) ps)) ∧ Below w.heap.size w w' := by
 have CA := Hd.mk (fun W (hB : Below w.heap.size w W) => pair_Apart A c ls x y W (h.up hB) hl)
 have CC := Hd.mk (fun W (hB : Below w.heap.size w W) => pair_Chained A B c d ls x y ps W (h.up hB) hl (hp.up hB) hpl)
 unfold uselessD
 clear h hp
 generalize apartD ls (x, y) = u at CA ⊢
 generalize chainD ls (x, y) ps = v at CC ⊢
 go_enter Tryz.func41, Tryz.ntmps41
 go_upto_region 1 with (fail)
 refine wp_gen (fun W => Below w.heap.size w W ∧ Bk W w.heap.size 72 #[.int .i64 x, .int .i64 y]) ⟨(Below.refl _ _).alloc (Nat.le_refl _) _, Bk.new_ _ _ _⟩ ?_
 intro W1 H1
 obtain ⟨d0, d1⟩ := H1.out.2.pair
 have CA := Hd.mk (CA.out W1 H1.out.1)
 cases u with
 | true =>
   go_wp2_with fail
   refine CA.out.mono ?_
   rintro e w2 ⟨rfl, hb⟩
   have HB := Hd.mk (goes H1.out.1 hb)
   clear hb
   go_wp2_with fail
   go_ret
   exact ⟨rfl, HB.out⟩
 | false =>
   go_wp2_with fail
   refine CA.out.mono ?_
   rintro e w2 ⟨rfl, hb⟩
   have HB := Hd.mk (goes H1.out.1 hb)
   have K2 := Hd.mk (H1.out.2.up hb)
   have CC := Hd.mk (CC.out w2 HB.out)
   clear hb CA d0 d1
   obtain ⟨d0, d1⟩ := K2.out.pair
   go_wp2_with fail
   refine CC.out.mono ?_
   rintro e w3 ⟨rfl, hb⟩
   have HB3 := Hd.mk (goes HB.out hb)
   clear hb CC
   go_wp2_with fail
   go_ret
   exact ⟨retBool (Bool.false_or _), HB3.out⟩
theorem ref13_Useless (A B : Option Addr) (c d : Nat) (ls : List MonD) (x y : Int) (ps : List (Int × Int)) (w : World) (h : RMons w A ls) (hl : ls.length ≤ 1000000) (hp : RPrs w B ps) (hpl : ps.length ≤ 1000000) :
    Calls Tryz.prog 42 #[.slice A ls.length c, .agg #[.int .i64 x, .int .i64 y], .slice B ps.length d] w fun e w' => e = .returned (.bool (uselessD ls (x, y) ps)) ∧ Below w.heap.size w w' := by
 have CA := Hd.mk (fun W (hB : Below w.heap.size w W) => ref13_Apart A c ls x y W (h.up hB) hl)
 have CC := Hd.mk (fun W (hB : Below w.heap.size w W) => ref13_Chained A B c d ls x y ps W (h.up hB) hl (hp.up hB) hpl)
 unfold uselessD
 clear h hp
 generalize apartD ls (x, y) = u at CA ⊢
 generalize chainD ls (x, y) ps = v at CC ⊢
 go_enter Tryz.func42, Tryz.ntmps42
 go_upto_region 1 with (fail)
 refine wp_gen (fun W => Below w.heap.size w W ∧ Bk W w.heap.size 72 #[.int .i64 x, .int .i64 y]) ⟨(Below.refl _ _).alloc (Nat.le_refl _) _, Bk.new_ _ _ _⟩ ?_
 intro W1 H1
 obtain ⟨d0, d1⟩ := H1.out.2.pair
 have CA := Hd.mk (CA.out W1 H1.out.1)
 cases u with
 | true =>
   go_wp2_with fail
   refine CA.out.mono ?_
   rintro e w2 ⟨rfl, hb⟩
   have HB := Hd.mk (goes H1.out.1 hb)
   clear hb
   go_wp2_with fail
   go_ret
   exact ⟨rfl, HB.out⟩
 | false =>
   go_wp2_with fail
   refine CA.out.mono ?_
   rintro e w2 ⟨rfl, hb⟩
   have HB := Hd.mk (goes H1.out.1 hb)
   have K2 := Hd.mk (H1.out.2.up hb)
   have CC := Hd.mk (CC.out w2 HB.out)
   clear hb CA d0 d1
   obtain ⟨d0, d1⟩ := K2.out.pair
   go_wp2_with fail
   refine CC.out.mono ?_
   rintro e w3 ⟨rfl, hb⟩
   have HB3 := Hd.mk (goes HB.out hb)
   clear hb CC
   go_wp2_with fail
   go_ret
   exact ⟨retBool (Bool.false_or _), HB3.out⟩
theorem law_PairUseless (A B : Option Addr) (c d : Nat) (ls : List MonD) (x y : Int) (ps : List (Int × Int)) (w : World) (h : RMons w A ls) (hp : RPrs w B ps) :
    Calls Tryz.prog 12 #[.slice A ls.length c, .agg #[.int .i64 x, .int .i64 y], .slice B ps.length d] w fun e w' => e = .returned (.bool true) ∧ Below w.heap.size w w' := by
 have HR := Hd.mk h
 have HP := Hd.mk hp
 have CS := Hd.mk law13_shown
 clear h hp
 go_enter Tryz.func12, Tryz.ntmps12
 go_upto_region 1 with (fail)
 refine wp_gen (fun W => Below w.heap.size w W ∧ Bk W w.heap.size 72 #[.int .i64 x, .int .i64 y]) ⟨(Below.refl _ _).alloc (Nat.le_refl _) _, Bk.new_ _ _ _⟩ ?_
 intro W1 H1
 by_cases h1 : (ls.length : Int) > 30
 case pos =>
  go_wp2_with fail
  refine (CS.out _).mono ?_
  rintro e w2 ⟨rfl, hb⟩
  have HB := Hd.mk (goes H1.out.1 hb)
  clear hb
  go_wp2_with fail
  go_ret
  exact ⟨rfl, HB.out⟩
 by_cases h2 : (ps.length : Int) > 100
 case pos =>
  go_wp2_with fail
  refine (CS.out _).mono ?_
  rintro e w2 ⟨rfl, hb⟩
  have HB := Hd.mk (goes H1.out.1 hb)
  clear hb
  go_wp2_with fail
  go_ret
  exact ⟨rfl, HB.out⟩
 have hl : ls.length ≤ 1000000 := by omega
 have hpl : ps.length ≤ 1000000 := by omega
 go_wp2_with fail
 refine (CS.out _).mono ?_
 rintro e w2 ⟨rfl, hb⟩
 have HB := Hd.mk (goes H1.out.1 hb)
 have K2 := Hd.mk (H1.out.2.up hb)
 clear hb CS
 go_upto_region 3 with (fail)
 obtain ⟨d0, d1⟩ := K2.out.pair
 have d0 := Wd.cell d0
 have d1 := Wd.cell d1
 have C1 := Hd.mk (fun n : Wd w2 => pair_Apart A c ls x y n.w (HR.out.up (goes HB.out n.lo)) hl)
 have C2 := Hd.mk (fun n : Wd w2 => ref13_Apart A c ls x y n.w (HR.out.up (goes HB.out n.lo)) hl)
 have C3 := Hd.mk (fun n : Wd w2 => pair_Chained A B c d ls x y ps n.w (HR.out.up (goes HB.out n.lo)) hl (HP.out.up (goes HB.out n.lo)) hpl)
 have C4 := Hd.mk (fun n : Wd w2 => ref13_Chained A B c d ls x y ps n.w (HR.out.up (goes HB.out n.lo)) hl (HP.out.up (goes HB.out n.lo)) hpl)
 have C5 := Hd.mk (fun n : Wd w2 => pair_Useless A B c d ls x y ps n.w (HR.out.up (goes HB.out n.lo)) hl (HP.out.up (goes HB.out n.lo)) hpl)
 have C6 := Hd.mk (fun n : Wd w2 => ref13_Useless A B c d ls x y ps n.w (HR.out.up (goes HB.out n.lo)) hl (HP.out.up (goes HB.out n.lo)) hpl)
 generalize apartD ls (x, y) = b1 at C1 C2
 generalize chainD ls (x, y) ps = b2 at C3 C4
 generalize uselessD ls (x, y) ps = b3 at C5 C6
 have q1 : (b1 == b1) = true := by simp
 have q2 : (b2 == b2) = true := by simp
 have q3 : (b3 == b3) = true := by simp
 refine wp_region_wd w2 (by kernel_rfl) (by kernel_rfl) (Below.refl _ _).drew ?_
 repeat (go_big_quiet_step ((first
  | (go_at_call 35; exact Wd.call (C1.out _))
  | (go_at_call 38; exact Wd.call (C2.out _))
  | (go_at_call 39; exact Wd.call (C3.out _))
  | (go_at_call 40; exact Wd.call (C4.out _))
  | (go_at_call 41; exact Wd.call (C5.out _))
  | (go_at_call 42; exact Wd.call (C6.out _)))))
 refine wd_nil fun nq => ?_
 go_wp2_with fail
 go_ret
 exact ⟨rfl, goes HB.out nq.lo⟩
end Go.Proofs.YtjanagclahkfdaaGreat
namespace Go.Proofs.YtjanagclahkfdaaGreat
open Go.ChangeShapes Go.WideShapes Go.RowKit
theorem Tryz.slPr : Tryz.prog.underlying 69 = some (.slice 72) := by kernel_rfl
theorem Tryz.slMo : Tryz.prog.underlying 74 = some (.slice 45) := by kernel_rfl
theorem Tryz.fldPairs : fieldsAt (Tryz.prog.underlying 72) = [(3, 0), (3, 1)] := by kernel_rfl
theorem Tryz.cuPair : Tryz.prog.cellsOf 72 = 2 := by kernel_rfl
theorem Tryz.undInt : Tryz.prog.underlying 3 = some (.int .i64) := by kernel_rfl
theorem Tryz.cuInt : Tryz.prog.cellsOf 3 = 1 := by kernel_rfl
theorem rows_fix {α : Type} {sz : Nat} {f : α → List Value} (hf : ∀ x, (f x).length = sz) {w : World} {a : Addr} {T : Nat → α} : ∀ (n : Nat), (∀ i, i < n → ∀ k u, (f (T i))[k]? = some u → w.cell? (a.add (i * sz + k)) = some u) →
    (((List.range n).map T).flatMap f).length = n * sz ∧ ∀ j u, (((List.range n).map T).flatMap f)[j]? = some u → w.cell? (a.add j) = some u
 | 0, _ => ⟨by simp, fun j u h => by simp at h⟩
 | n + 1, h => by
   obtain ⟨h1, h2⟩ := rows_fix hf n (fun i hi => h i (by omega))
   have h4 := h n (by omega)
   rw [List.range_succ, List.map_append, List.flatMap_append]
   refine ⟨by rw [List.length_append, h1]; simp [hf, Nat.succ_mul], fun j u hu => ?_⟩
   rcases Nat.lt_or_ge j (n * sz) with hj | hj
   ·rw [List.getElem?_append_left (by omega)] at hu
    exact h2 j u hu
   ·rw [List.getElem?_append_right (by omega), h1] at hu
    have := h4 (j - n * sz) u (by simpa using hu)
    rwa [show n * sz + (j - n * sz) = j by omega] at this
section
variable {H : Type} {enc : TypeId × Value → H} {w : World}
theorem rd_rows {α : Type} {t e : TypeId} {sz : Nat} (dflt : α) {f : α → List Value} (hf : ∀ x, (f x).length = sz) (hs : 0 < sz) (ht : Tryz.prog.underlying t = some (.slice e)) (hc1 : Tryz.prog.cellsOf e = sz)
    (rd : ∀ {base : Nat} {spare : Nat → Bool} {held : Bool} {fuel : Nat} {cs : List Value} {x : DataW H × List MemPlace}, DataW.trod enc Tryz.prog w base spare held fuel e cs = some x → ∃ p, cs = f p)
    {base : Nat} {spare : Nat → Bool} {held : Bool} {fuel : Nat} {cs : List Value} {x : DataW H × List MemPlace} (h : DataW.trod enc Tryz.prog w base spare held fuel t cs = some x) :
    ∃ (A : Option Addr) (l : List α) (c : Nat), cs = [.slice A l.length c] ∧ l.length ≤ c ∧ c ≤ maxLen ∧ Rd w w.heap.size sz A l.length (l.flatMap f) := by
 rcases Deep.open_slice ht h with ⟨e, _⟩ | ⟨a, len, cap, m, n, D, Pl, e, _, hl, hm, hmm, _, hx⟩
 ·exact ⟨none, [], 0, e, Nat.le_refl _, by unfold maxLen; omega, ⟨by simp, fun h => by cases h⟩⟩
 ·have hle : len ≤ m := by rw [hmm]; split <;> omega
  have hel : ∀ i, ∃ p : α, i < len → ∀ k u, (f p)[k]? = some u → w.cell? (a.add (i * sz + k)) = some u := fun i => by
   by_cases hi : i < len
   ·obtain ⟨cs', h1, h2⟩ := hx i (by omega)
    rw [hc1] at h1
    obtain ⟨s, rfl⟩ := rd h2
    obtain ⟨_, h3, h4⟩ := World.cells?_some h1
    refine ⟨s, fun _ k u hu => ?_⟩
    have hk : k < sz := by
     rcases Nat.lt_or_ge k (f s).length with h5 | h5
     ·rwa [hf] at h5
     ·rw [List.getElem?_eq_none h5] at hu; cases hu
    rw [← add_add, h4 k hk]; exact hu
   ·exact ⟨dflt, fun h => absurd h hi⟩
  obtain ⟨F, hF⟩ := Classical.axiomOfChoice hel
  obtain ⟨h1, h2⟩ := rows_fix hf (w := w) (a := a) (T := F) len (fun i hi => hF i hi)
  have hlen : ((List.range len).map F).length = len := by simp
  refine ⟨some a, (List.range len).map F, cap, by rw [hlen]; exact e, by rw [hlen]; exact hl, hm, by rw [h1, hlen], fun hn => ⟨a, rfl, ?_, h2⟩⟩
  rw [hlen] at hn
  have h3 : ∃ u, (f (F 0))[0]? = some u := ⟨_, List.getElem?_eq_getElem (by rw [hf]; exact hs)⟩
  obtain ⟨u, hu⟩ := h3
  have := World.block_lt_of_cell? w _ (hF 0 hn 0 u hu)
  rwa [add_block] at this
theorem rd_pair {base : Nat} {spare : Nat → Bool} {held : Bool} {fuel : Nat} {cs : List Value} {x : DataW H × List MemPlace} (h : DataW.trod enc Tryz.prog w base spare held fuel 72 cs = some x) :
    ∃ p : Int × Int, cs = [.int .i64 p.1, .int .i64 p.2] := by
 obtain ⟨f, g, e, t1, o1, t2, o2⟩ := two_of Tryz.fldPairs
 obtain ⟨y0, y1, n, _, hl, h0, h1⟩ := trod_struct2 e h
 rw [Tryz.cuPair] at hl
 rw [t1, o1, Tryz.cuInt] at h0
 rw [t2, o2, Tryz.cuInt] at h1
 match cs, hl with
 | [v0, v1], _ =>
   simp only [List.drop_zero, List.drop_succ_cons, List.take_succ_cons, List.take_zero] at h0 h1
   obtain ⟨a, e0, _⟩ := DataW.trod_int Tryz.undInt h0
   obtain ⟨b, e1, _⟩ := DataW.trod_int Tryz.undInt h1
   simp only [List.cons.injEq, and_true] at e0 e1
   subst e0 e1
   exact ⟨(a, b), rfl⟩
theorem rd_pairs {base : Nat} {spare : Nat → Bool} {held : Bool} {fuel : Nat} {cs : List Value} {x : DataW H × List MemPlace} (h : DataW.trod enc Tryz.prog w base spare held fuel 69 cs = some x) :
    ∃ A ps c, cs = [.slice A ps.length c] ∧ RPrs w A ps := by
 obtain ⟨A, l, c, e, _, _, hr⟩ := rd_rows (α := Int × Int) (0, 0) (f := fun p => [.int .i64 p.1, .int .i64 p.2]) (fun _ => rfl) (by omega) Tryz.slPr Tryz.cuPair (fun h => rd_pair h) h
 exact ⟨A, l, c, e, hr⟩
theorem rd_monos {base : Nat} {spare : Nat → Bool} {held : Bool} {fuel : Nat} {cs : List Value} {x : DataW H × List MemPlace} (h : DataW.trod enc Tryz.prog w base spare held fuel 74 cs = some x) :
    ∃ A ls c, cs = [.slice A ls.length c] ∧ RMons w A ls := by
 obtain ⟨A, l, c, e, _, _, hr⟩ := rd_rows (α := MonD) zeroM (f := fun m => [.int .i64 m.x0, .int .i64 m.x1, .int .i64 m.x2, .int .i64 m.x3]) (fun _ => rfl) (by omega) Tryz.slMo Tryz.cuMono (fun h => rd_mono h) h
 exact ⟨A, l, c, e, hr⟩
end
end Go.Proofs.YtjanagclahkfdaaGreat
