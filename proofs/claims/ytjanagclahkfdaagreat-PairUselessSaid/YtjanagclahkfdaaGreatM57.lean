/- Parts of the proof, joined: what each says stands at its head. -/
import Derived.Test.YtjanagclahkfdaaGreatM54
import Derived.Test.YtjanagclahkfdaaGreatM21
import Derived.Test.YtjanagclahkfdaaGreatM53
set_option linter.unusedVariables false
set_option linter.unusedSimpArgs false
set_option maxHeartbeats 24000000
set_option maxRecDepth 100000
namespace Go.Proofs.YtjanagclahkfdaaGreat
open Go.RowKit
def rightD (n : Nat) (x : Int × Int) : Bool := decide (0 ≤ x.1) && decide (x.1 < x.2) && decide (x.2 < (n : Int))
def isP (a b : Int) (y : Int × Int) : Bool := decide (y.1 = min a b) && decide (y.2 = max a b)
def hasP (ps : List (Int × Int)) (a b : Int) : Bool := ps.any (isP a b)
theorem rightD_of {n : Nat} {x : Int × Int} (h : rightD n x = true) : 0 ≤ x.1 ∧ x.1 < x.2 ∧ x.2 < n := by
 unfold rightD at h
 simpa [and_assoc] using h
theorem hasP_step {ps : List (Int × Int)} {a b : Int} {i : Nat} {y : Int × Int} (hi : ps[i]? = some y) (h : isP a b y = true) : hasP ps a b = true :=
 List.any_eq_true.2 ⟨y, List.mem_of_getElem? hi, h⟩
theorem hasP_none {ps : List (Int × Int)} {a b : Int} (h : ∀ j y, j < ps.length → ps[j]? = some y → isP a b y = false) : hasP ps a b = false := by
 unfold hasP
 rw [List.any_eq_false]
 intro y hy
 obtain ⟨j, hj, e⟩ := List.getElem_of_mem hy
 rw [h j y hj (by rw [List.getElem?_eq_getElem hj, e])]
 simp
def cellsM (ls : List MonD) : List Value := ls.flatMap fun m => [.int .i64 m.x0, .int .i64 m.x1, .int .i64 m.x2, .int .i64 m.x3]
theorem cellsM_at {ls : List MonD} : ∀ {j : Nat} {m : MonD}, ls[j]? = some m → (cellsM ls)[j * 4]? = some (.int .i64 m.x0) ∧ (cellsM ls)[j * 4 + 1]? = some (.int .i64 m.x1) ∧ (cellsM ls)[j * 4 + 2]? = some (.int .i64 m.x2) ∧ (cellsM ls)[j * 4 + 3]? = some (.int .i64 m.x3) := by
 induction ls with
 | nil => intro j m h; cases h
 | cons y r ih =>
   intro j m h
   cases j with
   | zero => cases h; exact ⟨rfl, rfl, rfl, rfl⟩
   | succ j =>
     have := ih (j := j) (m := m) (by simpa using h)
     rw [show (j + 1) * 4 = j * 4 + 1 + 1 + 1 + 1 by omega, show j * 4 + 1 + 1 + 1 + 1 + 1 = (j * 4 + 1) + 1 + 1 + 1 + 1 by omega, show j * 4 + 1 + 1 + 1 + 1 + 2 = (j * 4 + 2) + 1 + 1 + 1 + 1 by omega, show j * 4 + 1 + 1 + 1 + 1 + 3 = (j * 4 + 3) + 1 + 1 + 1 + 1 by omega]
     exact this
def RMons (w : World) (A : Option Addr) (ls : List MonD) : Prop := Rd w w.heap.size 4 A ls.length (cellsM ls)
section
variable {w w' : World} {A : Option Addr} {ls : List MonD}
theorem RMons.up (h : RMons w A ls) (hb : Below w.heap.size w w') : RMons w' A ls := Rd.up h hb
theorem RMons.nil (w : World) (A : Option Addr) : RMons w A [] := Rd.nil
theorem RMons.get (h : RMons w A ls) {j : Nat} (hj : j < ls.length) : ∃ (ad : Addr) (m : MonD), A = some ad ∧ ad.block < w.heap.size ∧ Hd (ls[j]? = some m) ∧
    w.cell? (ad.add (j * 4)) = some (.int .i64 m.x0) ∧ w.cell? ⟨(ad.add (j * 4)).block, (ad.add (j * 4)).off + 1, none⟩ = some (.int .i64 m.x1) ∧
    w.cell? ⟨(ad.add (j * 4)).block, (ad.add (j * 4)).off + 2, none⟩ = some (.int .i64 m.x2) ∧ w.cell? ⟨(ad.add (j * 4)).block, (ad.add (j * 4)).off + 3, none⟩ = some (.int .i64 m.x3) := by
 obtain ⟨ad, e, hb, hc⟩ := h.2 (by omega)
 have hx := List.getElem?_eq_getElem hj
 obtain ⟨h0, h1, h2, h3⟩ := cellsM_at hx
 refine ⟨ad, ls[j], e, hb, ⟨hx⟩, hc _ _ h0, ?_, ?_, ?_⟩
 ·rw [← add_pos _ _ 1 (by omega)]; exact hc _ _ h1
 ·rw [← add_pos _ _ 2 (by omega)]; exact hc _ _ h2
 ·rw [← add_pos _ _ 3 (by omega)]; exact hc _ _ h3
end
theorem Bk.pair {w : World} {g : Nat} {t : TypeId} {v0 v1 : Value} (h : Bk w g t #[v0, v1]) : w.cell? ⟨g, 0, none⟩ = some v0 ∧ w.cell? ⟨g, 1, none⟩ = some v1 := ⟨by rw [h.cell]; rfl, by rw [h.cell]; rfl⟩
theorem pair_right (A : Option Addr) (n c : Nat) (x y : Int) (w : World) :
    Calls Tryz.prog 71 #[.slice A n c, .agg #[.int .i64 x, .int .i64 y]] w fun e w' => e = .returned (.bool (rightD n (x, y))) ∧ Below w.heap.size w w' := by
 obtain ⟨E, hE⟩ : ∃ E, rightD n (x, y) = E := ⟨_, rfl⟩
 rw [hE]
 have HE := Hd.mk hE
 clear hE
 by_cases h0 : 0 ≤ x
 case neg =>
  have HF : Hd (E = false) := ⟨by rw [← HE.out]; unfold rightD; simp [h0]⟩
  go_enter Tryz.func71, Tryz.ntmps71
  go_wp2_with fail
  go_ret
  exact ⟨retBool HF.out.symm, (Below.refl _ _).alloc (Nat.le_refl _) _⟩
 by_cases h1 : x < y
 case neg =>
  have HF : Hd (E = false) := ⟨by rw [← HE.out]; unfold rightD; simp [h1]⟩
  go_enter Tryz.func71, Tryz.ntmps71
  go_wp2_with fail
  go_ret
  exact ⟨retBool HF.out.symm, (Below.refl _ _).alloc (Nat.le_refl _) _⟩
 by_cases h2 : y < n
 case neg =>
  have HF : Hd (E = false) := ⟨by rw [← HE.out]; unfold rightD; simp [h2]⟩
  go_enter Tryz.func71, Tryz.ntmps71
  go_wp2_with fail
  go_ret
  exact ⟨retBool HF.out.symm, (Below.refl _ _).alloc (Nat.le_refl _) _⟩
 have HF : Hd (E = true) := ⟨by rw [← HE.out]; unfold rightD; simp [h0, h1, h2]⟩
 go_enter Tryz.func71, Tryz.ntmps71
 go_wp2_with fail
 go_ret
 exact ⟨retBool HF.out.symm, (Below.refl _ _).alloc (Nat.le_refl _) _⟩
theorem ref13_right (A : Option Addr) (n c : Nat) (x y : Int) (w : World) :
    Calls Tryz.prog 73 #[.slice A n c, .agg #[.int .i64 x, .int .i64 y]] w fun e w' => e = .returned (.bool (rightD n (x, y))) ∧ Below w.heap.size w w' := by
 obtain ⟨E, hE⟩ : ∃ E, rightD n (x, y) = E := ⟨_, rfl⟩
 rw [hE]
 have HE := Hd.mk hE
 clear hE
 by_cases h0 : 0 ≤ x
 case neg =>
  have HF : Hd (E = false) := ⟨by rw [← HE.out]; unfold rightD; simp [h0]⟩
  go_enter Tryz.func73, Tryz.ntmps73
  go_wp2_with fail
  go_ret
  exact ⟨retBool HF.out.symm, (Below.refl _ _).alloc (Nat.le_refl _) _⟩
 by_cases h1 : x < y
 case neg =>
  have HF : Hd (E = false) := ⟨by rw [← HE.out]; unfold rightD; simp [h1]⟩
  go_enter Tryz.func73, Tryz.ntmps73
  go_wp2_with fail
  go_ret
  exact ⟨retBool HF.out.symm, (Below.refl _ _).alloc (Nat.le_refl _) _⟩
 by_cases h2 : y < n
 case neg =>
  have HF : Hd (E = false) := ⟨by rw [← HE.out]; unfold rightD; simp [h2]⟩
  go_enter Tryz.func73, Tryz.ntmps73
  go_wp2_with fail
  go_ret
  exact ⟨retBool HF.out.symm, (Below.refl _ _).alloc (Nat.le_refl _) _⟩
 have HF : Hd (E = true) := ⟨by rw [← HE.out]; unfold rightD; simp [h0, h1, h2]⟩
 go_enter Tryz.func73, Tryz.ntmps73
 go_wp2_with fail
 go_ret
 exact ⟨retBool HF.out.symm, (Below.refl _ _).alloc (Nat.le_refl _) _⟩
theorem ref13_In (A : Option Addr) (c : Nat) (ps : List (Int × Int)) (a b : Int) (w : World) (h : RPrs w A ps) (hl : ps.length ≤ 1000000) :
    Calls Tryz.prog 76 #[.slice A ps.length c, .int .i64 a, .int .i64 b] w fun e w' => e = .returned (.bool (hasP ps a b)) ∧ Below w.heap.size w w' := by
 obtain ⟨E, hE⟩ : ∃ E, hasP ps a b = E := ⟨_, rfl⟩
 rw [hE]
 have HY : Hd (∀ {i y}, ps[i]? = some y → isP a b y = true → E = true) := ⟨fun h1 h2 => by rw [← hE]; exact hasP_step h1 h2⟩
 have HN : Hd ((∀ j y, j < ps.length → ps[j]? = some y → isP a b y = false) → E = false) := ⟨fun h => by rw [← hE]; exact hasP_none h⟩
 have HR := Hd.mk h
 clear hE h
 go_enter Tryz.func76, Tryz.ntmps76
 go_wp2_with fail
 go_loopw [7] (fun v wr => ∃ i : Nat, v = .int .i64 i ∧ i ≤ ps.length ∧ Hd (Below w.heap.size w wr) ∧ Hd (∀ j y, j < i → ps[j]? = some y → isP a b y = false)) (fun v _ => ps.length - (intOf v).toNat)
 case atStart => exact ⟨0, rfl, by omega, ⟨.refl _ _⟩, ⟨fun j y h => absurd h (by omega)⟩⟩
 case round =>
  obtain ⟨i, rfl, hi, HB, HNO⟩ := hrel
  by_cases hlt : i < ps.length
  ·have i1 : (i : Int) < ps.length := by omega
   have i3 : (0 : Int) ≤ i := by omega
   obtain ⟨ad, x, y, rfl, -, hx, c0, c1⟩ := (HR.out.up HB.out).get hlt
   have HX := hx
   have HNO2 : Hd (isP a b (x, y) = false → ∀ j y, j < i + 1 → ps[j]? = some y → isP a b y = false) := ⟨fun hn j z hj hz => by
    rcases Nat.lt_or_ge j i with h | h
    ·exact HNO.out j z h hz
    ·obtain rfl : j = i := by omega
     rw [HX.out] at hz
     injection hz with hz
     rw [← hz]; exact hn⟩
   have HY2 := Hd.mk (HY.out hx.out)
   clear hx
   by_cases h1 : x = min a b
   case neg =>
    have e1 : (x == min a b) = false := by rw [beq_eq_false_iff_ne]; exact h1
    have HN3 := Hd.mk (HNO2.out (by unfold isP; simp [h1]))
    clear h1
    go_wp2_with fail
    exact ⟨⟨i + 1, by go_num, by omega, HB, HN3⟩, by simp [intOf]; omega⟩
   have e1 : (x == min a b) = true := by rw [beq_iff_eq]; exact h1
   by_cases h2 : y = max a b
   case neg =>
    have e2 : (y == max a b) = false := by rw [beq_eq_false_iff_ne]; exact h2
    have HN3 := Hd.mk (HNO2.out (by unfold isP; simp [h2]))
    clear h1 h2
    go_wp2_with fail
    exact ⟨⟨i + 1, by go_num, by omega, HB, HN3⟩, by simp [intOf]; omega⟩
   have e2 : (y == max a b) = true := by rw [beq_iff_eq]; exact h2
   have HE := Hd.mk (HY2.out (by unfold isP; simp [h1, h2]))
   clear h1 h2
   go_wp2_with fail
   go_ret
   exact ⟨retBool HE.out.symm, HB.out⟩
  ·have i1 : ¬ (i : Int) < ps.length := by omega
   obtain rfl : i = ps.length := by omega
   have HE := Hd.mk (HN.out HNO.out)
   go_wp2_with fail
   go_ret
   exact ⟨retBool HE.out.symm, HB.out⟩
theorem Tryz.fldPr : ((Tryz.prog.fieldsOf 72).toList).map (fun f => (f.name, f.type, f.offset)) = [("I", 3, 0), ("J", 3, 1)] := by kernel_rfl
theorem Tryz.undPr : (match Tryz.prog.underlying 72 with | some (.struct _) => true | _ => false) = true := by kernel_rfl
theorem eq_pair (a b c d : Int) (w : World) : (Op.equalIn 10000 72 (.agg #[.int .i64 a, .int .i64 b]) (.agg #[.int .i64 c, .int .i64 d])).run Tryz.prog w = .ok (decide (a = c) && decide (b = d)) w := by
 have hu : Tryz.prog.underlying 72 = some (.struct (Tryz.prog.fieldsOf 72)) := by
  have h := Tryz.undPr
  unfold Program.fieldsOf
  cases h2 : Tryz.prog.underlying 72 with
  | none => rw [h2] at h; cases h
  | some u => rw [h2] at h; cases u <;> first | rfl | cases h
 rw [run_equalIn_struct w 9999 72 _ _ hu (by kernel_rfl)]
 have hf := Tryz.fldPr
 generalize (Tryz.prog.fieldsOf 72).toList = fs at hf
 obtain ⟨f, g, rfl⟩ := (show ∃ f g, fs = [f, g] by
  have hl : fs.length = 2 := by simpa using congrArg List.length hf
  cases fs with
  | nil => cases hl
  | cons f r =>
    cases r with
    | nil => cases hl
    | cons g r =>
      cases r with
      | nil => exact ⟨f, g, rfl⟩
      | cons k r => simp at hl)
 ·simp only [List.map_cons, List.map_nil, List.cons.injEq, Prod.mk.injEq, and_true] at hf
  obtain ⟨⟨f1, f2, f3⟩, g1, g2, g3⟩ := hf
  have hp : Tryz.prog.plainKey 3 = true := by kernel_rfl
  have p0 : ∀ (x y : Int) (w : World), (Go.part 3 #[Value.int .i64 x, .int .i64 y] 0).run Tryz.prog w = .ok (.int .i64 x) w := fun x y w => run_part_plain w hp rfl
  have p1 : ∀ (x y : Int) (w : World), (Go.part 3 #[Value.int .i64 x, .int .i64 y] 1).run Tryz.prog w = .ok (.int .i64 y) w := fun x y w => run_part_plain w hp rfl
  have q : ∀ (x y : Int) (w : World), (Op.equalIn 9999 3 (.int .i64 x) (.int .i64 y)).run Tryz.prog w = .ok (x == y) w := fun x y w => run_equalIn_int w 9998 3 .i64 .i64 x y Tryz.undI
  unfold Op.eqFields Op.eqFields Op.eqFields
  rw [f1, f2, f3, g1, g2, g3]
  simp only [show ("I" ≠ "_") from by decide, show ("J" ≠ "_") from by decide, if_true, Sem.run_bind, p0, p1, Result.andThen_ok, q, ne_eq, not_false_eq_true]
  by_cases h1 : a = c
  ·by_cases h2 : b = d
   ·simp [h1, h2, p1, q]
   ·simp [h1, h2, p1, q]
  ·simp [h1]
theorem pairs_Index (A : Option Addr) (c : Nat) (ps : List (Int × Int)) (a b : Int) (w : World) (h : RPrs w A ps) (hl : ps.length ≤ 1000000) :
    Calls Tryz.prog 107 #[.slice A ps.length c, .agg #[.int .i64 a, .int .i64 b]] w fun e w' => ∃ r : Int, e = .returned (.int .i64 r) ∧ decide (0 ≤ r) = ps.any (fun y => decide (a = y.1) && decide (b = y.2)) ∧ Below w.heap.size w w' := by
 obtain ⟨E, hE⟩ : ∃ E, ps.any (fun y => decide (a = y.1) && decide (b = y.2)) = E := ⟨_, rfl⟩
 rw [hE]
 have HY : Hd (∀ {i : Nat} {y : Int × Int}, ps[i]? = some y → (decide (a = y.1) && decide (b = y.2)) = true → E = true) := ⟨fun h1 h2 => by rw [← hE]; exact List.any_eq_true.2 ⟨_, List.mem_of_getElem? h1, h2⟩⟩
 have HN : Hd ((∀ j y, j < ps.length → ps[j]? = some y → (decide (a = y.1) && decide (b = y.2)) = false) → E = false) := ⟨fun h => by
  rw [← hE, List.any_eq_false]
  intro y hy
  obtain ⟨j, hj, e⟩ := List.getElem_of_mem hy
  rw [h j y hj (by rw [List.getElem?_eq_getElem hj, e])]
  simp⟩
 have HR := Hd.mk h
 clear hE h
 go_enter Tryz.func107, Tryz.ntmps107
 go_upto_region 1 with (fail)
 refine wp_gen (fun W => Bk W w.heap.size 72 #[.int .i64 a, .int .i64 b] ∧ Below w.heap.size w W) ⟨Bk.new_ w 72 #[.int .i64 a, .int .i64 b], (Below.refl _ _).alloc (Nat.le_refl _) _⟩ ?_
 intro W1 H1
 have K1 := Hd.mk H1.out.1
 have HB1 := Hd.mk H1.out.2
 have HR1 := Hd.mk (HR.out.up H1.out.2)
 clear H1 HR
 go_wp2_with fail
 go_loopw [8] (fun v wr => ∃ i : Nat, v = .int .i64 i ∧ i ≤ ps.length ∧ Hd (Below W1.heap.size W1 wr) ∧ Hd (∀ j y, j < i → ps[j]? = some y → (decide (a = y.1) && decide (b = y.2)) = false)) (fun v _ => ps.length - (intOf v).toNat)
 case atStart => exact ⟨0, rfl, by omega, ⟨.refl _ _⟩, ⟨fun j y h => absurd h (by omega)⟩⟩
 case round =>
  obtain ⟨i, rfl, hi, HB, HNO⟩ := hrel
  by_cases hlt : i < ps.length
  ·have i1 : (i : Int) < ps.length := by omega
   have i3 : (0 : Int) ≤ i := by omega
   obtain ⟨ad, x, y, rfl, -, hx, c0, c1⟩ := (HR1.out.up HB.out).get hlt
   obtain ⟨d0, d1⟩ := (K1.out.up HB.out).pair
   have HX := hx
   have HNO2 : Hd ((decide (a = x) && decide (b = y)) = false → ∀ j y, j < i + 1 → ps[j]? = some y → (decide (a = y.1) && decide (b = y.2)) = false) := ⟨fun hn j z hj hz => by
    rcases Nat.lt_or_ge j i with h | h
    ·exact HNO.out j z h hz
    ·obtain rfl : j = i := by omega
     rw [HX.out] at hz
     injection hz with hz
     rw [← hz]; exact hn⟩
   have HY2 := Hd.mk (HY.out hx.out)
   clear hx
   have QE := fun W => eq_pair a b x y W
   obtain ⟨t, ht⟩ : ∃ t, (decide (a = x) && decide (b = y)) = t := ⟨_, rfl⟩
   rw [ht] at HNO2
   simp only [ht] at QE HY2
   clear ht
   cases t with
   | false =>
     have HN3 := Hd.mk (HNO2.out rfl)
     go_wp2_with fail
     go_quiet (fail)
     go_wp2_with fail
     exact ⟨⟨i + 1, by go_num, by omega, ⟨Below.dn HB.out _⟩, HN3⟩, by simp [intOf]; omega⟩
   | true =>
     have HE := Hd.mk (HY2.out rfl)
     go_wp2_with fail
     go_quiet (fail)
     go_wp2_with fail
     go_ret
     exact ⟨_, rfl, by rw [HE.out]; exact decide_eq_true (by omega), Below.dn (goes HB1.out HB.out) _⟩
  ·have i1 : ¬ (i : Int) < ps.length := by omega
   obtain rfl : i = ps.length := by omega
   have HE := Hd.mk (HN.out HNO.out)
   go_wp2_with fail
   go_ret
   exact ⟨_, rfl, by rw [HE.out]; rfl, goes HB1.out HB.out⟩
theorem pairs_Contains (A : Option Addr) (c : Nat) (ps : List (Int × Int)) (a b : Int) (w : World) (h : RPrs w A ps) (hl : ps.length ≤ 1000000) :
    Calls Tryz.prog 75 #[.slice A ps.length c, .agg #[.int .i64 a, .int .i64 b]] w fun e w' => e = .returned (.bool (ps.any (fun y => decide (a = y.1) && decide (b = y.2)))) ∧ Below w.heap.size w w' := by
 have CI := Hd.mk (fun W (hB : Below w.heap.size w W) => pairs_Index A c ps a b W (h.up hB) hl)
 obtain ⟨E, hE⟩ : ∃ E, ps.any (fun y => decide (a = y.1) && decide (b = y.2)) = E := ⟨_, rfl⟩
 rw [hE] at CI ⊢
 clear hE h
 go_enter Tryz.func75, Tryz.ntmps75
 go_wp2_with fail
 refine (CI.out _ ((Below.refl _ _).alloc (Nat.le_refl _) _)).mono ?_
 rintro e w2 ⟨r, rfl, hr, hb⟩
 have HB2 := Hd.mk (goes ((Below.refl w.heap.size w).alloc (Nat.le_refl _) _) hb)
 clear hb CI
 cases E with
 | false =>
   have hr : ¬ 0 ≤ r := of_decide_eq_false hr
   go_wp2_with fail
   go_ret
   exact ⟨rfl, HB2.out⟩
 | true =>
   have hr : 0 ≤ r := of_decide_eq_true hr
   go_wp2_with fail
   go_ret
   exact ⟨rfl, HB2.out⟩
theorem any_isP (ps : List (Int × Int)) (a b : Int) : ps.any (fun y => decide (min a b = y.1) && decide (max a b = y.2)) = hasP ps a b := by
 unfold hasP
 congr 1
 funext y
 unfold isP
 congr 1 <;> exact decide_eq_decide.2 eq_comm
theorem pair_waits (A : Option Addr) (c g : Nat) (ps : List (Int × Int)) (a b : Int) (w : World) (h : RPrs w A ps) (hl : ps.length ≤ 1000000) (hg : w.cell? ⟨g, 0, none⟩ = some (.slice A ps.length c)) :
    Calls Tryz.prog 74 #[.int .i64 a, .int .i64 b, .pointer (some ⟨g, 0, none⟩)] w fun e w' => e = .returned (.bool (hasP ps a b)) ∧ Below w.heap.size w w' := by
 have CI := Hd.mk (fun W (hB : Below w.heap.size w W) => pairs_Contains A c ps (min a b) (max a b) W (h.up hB) hl)
 simp only [any_isP] at CI
 clear h
 obtain ⟨E, hE⟩ : ∃ E, hasP ps a b = E := ⟨_, rfl⟩
 rw [hE] at CI ⊢
 clear hE
 obtain ⟨lo, hlo⟩ : ∃ lo, min a b = lo := ⟨_, rfl⟩
 obtain ⟨hi, hhi⟩ : ∃ hi, max a b = hi := ⟨_, rfl⟩
 rw [hlo, hhi] at CI
 go_enter Tryz.func74, Tryz.ntmps74
 go_wp2_with fail
 refine (CI.out _ (.refl _ _)).mono ?_
 rintro e w2 ⟨rfl, hb⟩
 have HB2 := Hd.mk hb
 clear hb
 go_wp2_with fail
 go_ret
 exact ⟨rfl, HB2.out⟩
def atM (ls : List MonD) (x : Int) : MonD := ls.getD x.toNat zeroM
def apartD (ls : List MonD) (x : Int × Int) : Bool := rightD ls.length x && monCop (atM ls x.1) (atM ls x.2)
theorem atM_of {ls : List MonD} {i : Nat} {m : MonD} (h : ls[i]? = some m) : atM ls i = m := by
 unfold atM
 rw [Int.toNat_natCast, List.getD_eq_getElem?_getD, h]
 rfl
theorem mono_Coprime' (a b : MonD) (w : World) :
    Calls Tryz.prog 72 #[.agg #[.int .i64 a.x0, .int .i64 a.x1, .int .i64 a.x2, .int .i64 a.x3], .agg #[.int .i64 b.x0, .int .i64 b.x1, .int .i64 b.x2, .int .i64 b.x3]] w fun e w' =>
     e = .returned (.bool (monCop a b)) ∧ Below w.heap.size w w' := (mono_Coprime a b w).mono fun _ _ ⟨h1, h2⟩ => ⟨h1, h2.lo⟩
theorem pair_Apart (A : Option Addr) (c : Nat) (ls : List MonD) (x y : Int) (w : World) (h : RMons w A ls) (hl : ls.length ≤ 1000000) :
    Calls Tryz.prog 35 #[.slice A ls.length c, .agg #[.int .i64 x, .int .i64 y]] w fun e w' => e = .returned (.bool (apartD ls (x, y))) ∧ Below w.heap.size w w' := by
 obtain ⟨E, hE⟩ : ∃ E, apartD ls (x, y) = E := ⟨_, rfl⟩
 rw [hE]
 have HEQ := Hd.mk hE
 clear hE
 have HR := Hd.mk h
 clear h
 have CR := Hd.mk (fun W => pair_right A ls.length c x y W)
 cases hr : rightD ls.length (x, y)
 case false =>
  rw [hr] at CR
  have HE : Hd (E = false) := ⟨by rw [← HEQ.out]; unfold apartD; rw [hr]; rfl⟩
  clear hr
  go_enter Tryz.func35, Tryz.ntmps35
  go_upto_region 1 with (fail)
  refine wp_gen (fun W => Bk W w.heap.size 72 #[.int .i64 x, .int .i64 y] ∧ Below w.heap.size w W) ⟨Bk.new_ w 72 #[.int .i64 x, .int .i64 y], (Below.refl _ _).alloc (Nat.le_refl _) _⟩ ?_
  intro W1 H1
  obtain ⟨d0, d1⟩ := H1.out.1.pair
  have HB1 := Hd.mk H1.out.2
  have d0 := Wd.cell d0
  have d1 := Wd.cell d1
  clear H1
  refine wp_region_wd W1 (by kernel_rfl) (by kernel_rfl) (Below.refl _ _).drew ?_
  repeat (go_big_quiet_step ((go_at_call 71; exact Wd.call (CR.out _))))
  refine wd_nil fun nq => ?_
  go_wp2_with fail
  go_ret
  exact ⟨retBool HE.out.symm, goes HB1.out nq.lo⟩
 rw [hr] at CR
 obtain ⟨x0, xy, yn⟩ := rightD_of hr
 obtain ⟨i, rfl⟩ : ∃ i : Nat, x = i := ⟨x.toNat, by omega⟩
 obtain ⟨j, rfl⟩ : ∃ j : Nat, y = j := ⟨y.toNat, by omega⟩
 have hi : i < ls.length := by omega
 have hj : j < ls.length := by omega
 have i1 : (i : Int) < ls.length := by omega
 have j1 : (j : Int) < ls.length := by omega
 have i3 : (0 : Int) ≤ i := by omega
 have j3 : (0 : Int) ≤ j := by omega
 go_enter Tryz.func35, Tryz.ntmps35
 go_upto_region 1 with (fail)
 refine wp_gen (fun W => Bk W w.heap.size 72 #[.int .i64 i, .int .i64 j] ∧ Below w.heap.size w W) ⟨Bk.new_ w 72 #[.int .i64 i, .int .i64 j], (Below.refl _ _).alloc (Nat.le_refl _) _⟩ ?_
 intro W1 H1
 obtain ⟨d0, d1⟩ := H1.out.1.pair
 have HB1 := Hd.mk H1.out.2
 have d0 := Wd.cell d0
 have d1 := Wd.cell d1
 obtain ⟨ad, m, rfl, -, hm, c0, c1, c2, c3⟩ := (HR.out.up HB1.out).get hi
 obtain ⟨ad', m', e, -, hm', e0, e1, e2, e3⟩ := (HR.out.up HB1.out).get hj
 injection e with e
 subst e
 have c0 := Wd.cell c0
 have c1 := Wd.cell c1
 have c2 := Wd.cell c2
 have c3 := Wd.cell c3
 have e0 := Wd.cell e0
 have e1 := Wd.cell e1
 have e2 := Wd.cell e2
 have e3 := Wd.cell e3
 have HE : Hd (E = monCop m m') := ⟨by rw [← HEQ.out]; unfold apartD; rw [hr, atM_of hm.out, atM_of hm'.out]; rfl⟩
 have CC := Hd.mk (fun W => mono_Coprime' m m' W)
 generalize monCop m m' = b at HE CC
 clear H1 hr hm hm' x0 xy yn
 refine wp_region_wd W1 (by kernel_rfl) (by kernel_rfl) (Below.refl _ _).drew ?_
 repeat (go_big_quiet_step ((first
  | (go_at_call 71; exact Wd.call (CR.out _))
  | (go_at_call 72; exact Wd.call (CC.out _)))))
 refine wd_nil fun nq => ?_
 go_wp2_with fail
 go_ret
 exact ⟨retBool HE.out.symm, goes HB1.out nq.lo⟩
theorem ref13_Apart (A : Option Addr) (c : Nat) (ls : List MonD) (x y : Int) (w : World) (h : RMons w A ls) (hl : ls.length ≤ 1000000) :
    Calls Tryz.prog 38 #[.slice A ls.length c, .agg #[.int .i64 x, .int .i64 y]] w fun e w' => e = .returned (.bool (apartD ls (x, y))) ∧ Below w.heap.size w w' := by
 obtain ⟨E, hE⟩ : ∃ E, apartD ls (x, y) = E := ⟨_, rfl⟩
 rw [hE]
 have HEQ := Hd.mk hE
 clear hE
 have HR := Hd.mk h
 clear h
 have CR := Hd.mk (fun W => ref13_right A ls.length c x y W)
 cases hr : rightD ls.length (x, y)
 case false =>
  rw [hr] at CR
  have HE : Hd (E = false) := ⟨by rw [← HEQ.out]; unfold apartD; rw [hr]; rfl⟩
  clear hr
  go_enter Tryz.func38, Tryz.ntmps38
  go_upto_region 1 with (fail)
  refine wp_gen (fun W => Bk W w.heap.size 72 #[.int .i64 x, .int .i64 y] ∧ Below w.heap.size w W) ⟨Bk.new_ w 72 #[.int .i64 x, .int .i64 y], (Below.refl _ _).alloc (Nat.le_refl _) _⟩ ?_
  intro W1 H1
  obtain ⟨d0, d1⟩ := H1.out.1.pair
  have HB1 := Hd.mk H1.out.2
  have d0 := Wd.cell d0
  have d1 := Wd.cell d1
  clear H1
  refine wp_region_wd W1 (by kernel_rfl) (by kernel_rfl) (Below.refl _ _).drew ?_
  repeat (go_big_quiet_step ((go_at_call 73; exact Wd.call (CR.out _))))
  refine wd_nil fun nq => ?_
  go_wp2_with fail
  go_ret
  exact ⟨retBool HE.out.symm, goes HB1.out nq.lo⟩
 rw [hr] at CR
 obtain ⟨x0, xy, yn⟩ := rightD_of hr
 obtain ⟨i, rfl⟩ : ∃ i : Nat, x = i := ⟨x.toNat, by omega⟩
 obtain ⟨j, rfl⟩ : ∃ j : Nat, y = j := ⟨y.toNat, by omega⟩
 have hi : i < ls.length := by omega
 have hj : j < ls.length := by omega
 have i1 : (i : Int) < ls.length := by omega
 have j1 : (j : Int) < ls.length := by omega
 have i3 : (0 : Int) ≤ i := by omega
 have j3 : (0 : Int) ≤ j := by omega
 go_enter Tryz.func38, Tryz.ntmps38
 go_upto_region 1 with (fail)
 refine wp_gen (fun W => Bk W w.heap.size 72 #[.int .i64 i, .int .i64 j] ∧ Below w.heap.size w W) ⟨Bk.new_ w 72 #[.int .i64 i, .int .i64 j], (Below.refl _ _).alloc (Nat.le_refl _) _⟩ ?_
 intro W1 H1
 obtain ⟨d0, d1⟩ := H1.out.1.pair
 have HB1 := Hd.mk H1.out.2
 have d0 := Wd.cell d0
 have d1 := Wd.cell d1
 obtain ⟨ad, m, rfl, -, hm, c0, c1, c2, c3⟩ := (HR.out.up HB1.out).get hi
 obtain ⟨ad', m', e, -, hm', e0, e1, e2, e3⟩ := (HR.out.up HB1.out).get hj
 injection e with e
 subst e
 have c0 := Wd.cell c0
 have c1 := Wd.cell c1
 have c2 := Wd.cell c2
 have c3 := Wd.cell c3
 have e0 := Wd.cell e0
 have e1 := Wd.cell e1
 have e2 := Wd.cell e2
 have e3 := Wd.cell e3
 have HE : Hd (E = monCop m m') := ⟨by rw [← HEQ.out]; unfold apartD; rw [hr, atM_of hm.out, atM_of hm'.out]; rfl⟩
 have CC := Hd.mk (fun W => rmon_Coprime m m' W)
 generalize monCop m m' = b at HE CC
 clear H1 hr hm hm' x0 xy yn
 refine wp_region_wd W1 (by kernel_rfl) (by kernel_rfl) (Below.refl _ _).drew ?_
 repeat (go_big_quiet_step ((first
  | (go_at_call 73; exact Wd.call (CR.out _))
  | (go_at_call 36; exact Wd.call (CC.out _)))))
 refine wd_nil fun nq => ?_
 go_wp2_with fail
 go_ret
 exact ⟨retBool HE.out.symm, goes HB1.out nq.lo⟩
end Go.Proofs.YtjanagclahkfdaaGreat
