/- Parts of the proof, joined: what each says stands at its head. -/
import Derived.Test.YtidjbiopneoeeaaGreatM02
import Derived.Laws.EntriesVeiled
import Derived.WideLaws
set_option linter.unusedVariables false
set_option linter.unusedSimpArgs false
/- Walks of the closures of mono.Cmp: lex, graded, reverse. No condition. -/
namespace Go.Proofs.YtidjbiopneoeeaaGreat
open Go.RowKit

/-- two boxed monomials -/
structure Bm2 (S g1 g2 : Nat) (w0 w : World) (a b : MonD) : Prop where
  below : Blw S w0 w
  s1 : S ≤ g1
  s2 : S ≤ g2
  n12 : g1 ≠ g2
  k1 : Bk w g1 65 #[.int .i64 a.x0, .int .i64 a.x1, .int .i64 a.x2, .int .i64 a.x3]
  k2 : Bk w g2 65 #[.int .i64 b.x0, .int .i64 b.x1, .int .i64 b.x2, .int .i64 b.x3]
section
variable {S g1 g2 : Nat} {w0 w w' : World} {a b : MonD}
theorem Bm2.up (h : Bm2 S g1 g2 w0 w a b) (hb : Blw w.heap.size w w') : Bm2 S g1 g2 w0 w' a b :=
  ⟨h.below.trans (hb.mono (Nat.le_trans h.s1 (Nat.le_of_lt h.k1.lt))), h.s1, h.s2, h.n12, h.k1.up hb.lo, h.k2.up hb.lo⟩
theorem Bm2.dn (h : Bm2 S g1 g2 w0 w a b) (n : Nat) : Bm2 S g1 g2 w0 (w.drewN n) a b := ⟨Blw.dn h.below n, h.s1, h.s2, h.n12, h.k1, h.k2⟩
theorem Bm2.mk2 (w : World) (a b : MonD) : Bm2 w.heap.size w.heap.size (w.heap.size + 1) w ((w.alloc (Obj.cells #[.int .i64 a.x0, .int .i64 a.x1, .int .i64 a.x2, .int .i64 a.x3] 65)).alloc (Obj.cells #[.int .i64 b.x0, .int .i64 b.x1, .int .i64 b.x2, .int .i64 b.x3] 65)) a b := by
  refine ⟨((Blw.refl _ _).alloc (Nat.le_refl _) _).alloc (by simp) _, Nat.le_refl _, by omega, by omega, (Bk.new_ _ _ _).al _, ?_⟩
  have := Bk.new_ (w.alloc (Obj.cells #[.int .i64 a.x0, .int .i64 a.x1, .int .i64 a.x2, .int .i64 a.x3] 65)) 65 #[.int .i64 b.x0, .int .i64 b.x1, .int .i64 b.x2, .int .i64 b.x3]
  simpa using this
theorem Bk.mono {g : Nat} {t : TypeId} (h : Bk w g t #[.int .i64 a.x0, .int .i64 a.x1, .int .i64 a.x2, .int .i64 a.x3]) : RdI w .i64 (some ⟨g, 0, none⟩) a.l := by
  refine ⟨by simp [ints], fun _ => ⟨_, rfl, h.lt, fun j u hu => ?_⟩⟩
  rw [add_win, Nat.zero_add, h.cell]
  have : (#[Value.int .i64 a.x0, .int .i64 a.x1, .int .i64 a.x2, .int .i64 a.x3] : Array Value) = (ints .i64 a.l).toArray := rfl
  rw [this]
  simpa using hu
theorem Bk.four {g : Nat} {t : TypeId} {v0 v1 v2 v3 : Value} (h : Bk w g t #[v0, v1, v2, v3]) : w.cell? ⟨g, 0, none⟩ = some v0 ∧ w.cell? ⟨g, 1, none⟩ = some v1 ∧ w.cell? ⟨g, 2, none⟩ = some v2 ∧ w.cell? ⟨g, 3, none⟩ = some v3 := by
  refine ⟨?_, ?_, ?_, ?_⟩ <;> (rw [h.cell]; rfl)
end

set_option maxHeartbeats 1000000 in
set_option maxRecDepth 100000 in
theorem Cmp_lex (a b : MonD) (w : World) :
    Calls Tryz.prog 158 #[.agg #[.int .i64 a.x0, .int .i64 a.x1, .int .i64 a.x2, .int .i64 a.x3], .agg #[.int .i64 b.x0, .int .i64 b.x1, .int .i64 b.x2, .int .i64 b.x3]] w fun e w' => e = .returned (.int .i64 (lexC a.l b.l)) ∧ Blw w.heap.size w w' := by
  go_enter Tryz.func158, Tryz.ntmps158
  go_upto_region 1 with (fail)
  refine wp_gen (fun W => Bm2 w.heap.size w.heap.size (w.heap.size + 1) w W a b) (Bm2.mk2 w a b) ?_
  intro W BX
  generalize w.heap.size + 1 = g2 at BX ⊢
  have r1 := Hd.mk BX.out.k1.mono
  have r2 := Hd.mk BX.out.k2.mono
  have CC := Hd.mk (slices_Compare (some ⟨w.heap.size, 0, none⟩) (some ⟨g2, 0, none⟩) 4 4 a.l b.l W.drew r1.out (Nat.le_refl _) r2.out (Nat.le_refl _) rfl (by simp [MonD.l]))
  go_region_with (go_at_call 159; refine CC.out.mono ?_; rintro e w' ⟨rfl, rfl⟩)
  all_goals (
    go_wp2_with fail
    go_ret
    exact ⟨rfl, (BX.out.dn 1).below⟩)

def rev (m : MonD) : MonD := ⟨m.x3, m.x2, m.x1, m.x0⟩

theorem Bk.setFour {w : World} {g : Nat} {t : TypeId} {a0 a1 a2 a3 : Value} (h : Bk w g t #[a0, a1, a2, a3]) (v0 v1 v2 v3 : Value) : Bk (w.setCells g 0 [v0, v1, v2, v3]) g t #[v0, v1, v2, v3] :=
  (((h.set_ 0 v0).set_ 1 v1).set_ 2 v2).set_ 3 v3

set_option maxHeartbeats 1000000 in
set_option maxRecDepth 100000 in
theorem Cmp_rev (a b : MonD) (gt : Nat) (w : World) (ht : w.cell? ⟨gt, 0, none⟩ = some (.func (.func 158) #[] #[])) :
    Calls Tryz.prog 165 #[.agg #[.int .i64 a.x0, .int .i64 a.x1, .int .i64 a.x2, .int .i64 a.x3], .agg #[.int .i64 b.x0, .int .i64 b.x1, .int .i64 b.x2, .int .i64 b.x3], .pointer (some ⟨gt, 0, none⟩)] w fun e w' => e = .returned (.int .i64 (lexC (rev b).l (rev a).l)) ∧ Blw w.heap.size w w' := by
  have hgt := World.block_lt_of_cell? w _ ht
  go_enter Tryz.func165, Tryz.ntmps165
  go_upto_region 1 with (fail)
  refine wp_gen (fun W => Bm2 w.heap.size w.heap.size (w.heap.size + 1) w W a b) (Bm2.mk2 w a b) ?_
  intro W BX
  generalize w.heap.size + 1 = g2 at BX ⊢
  have C1 := Hd.mk (Tryz.slices_Reverse_int_cells w.heap.size 0 4 4 a.l W (Nat.le_refl _) (by decide) (fun j hj => by
    obtain ⟨c0, c1, c2, c3⟩ := BX.out.k1.four
    match j, hj with
    | 0, _ => exact c0
    | 1, _ => exact c1
    | 2, _ => exact c2
    | 3, _ => exact c3) (fun j _ => BX.out.k1.froz _))
  go_wp2_with fail
  refine C1.out.mono ?_
  rintro e w2 ⟨rfl, q, rfl⟩
  have k1 : Hd (Bk ((W.drewN q).setCells w.heap.size 0 ((a.l.take 4).reverse.map (Value.int .i64))) w.heap.size 65 #[.int .i64 (rev a).x0, .int .i64 (rev a).x1, .int .i64 (rev a).x2, .int .i64 (rev a).x3]) := ⟨(BX.out.dn q).k1.setFour _ _ _ _⟩
  have BX2 : Hd (Bm2 w.heap.size w.heap.size g2 w ((W.drewN q).setCells w.heap.size 0 ((a.l.take 4).reverse.map (Value.int .i64))) (rev a) b) :=
    ⟨((((BX.out.dn q).below.setCell BX.out.s1 _).setCell BX.out.s1 _).setCell BX.out.s1 _).setCell BX.out.s1 _, BX.out.s1, BX.out.s2, BX.out.n12, k1.out, ((((BX.out.dn q).k2.far BX.out.n12.symm _).far BX.out.n12.symm _).far BX.out.n12.symm _).far BX.out.n12.symm _⟩
  generalize (W.drewN q).setCells w.heap.size 0 ((a.l.take 4).reverse.map (Value.int .i64)) = W2 at k1 BX2 ⊢
  have C2 := Hd.mk (Tryz.slices_Reverse_int_cells g2 0 4 4 b.l W2 (Nat.le_refl _) (by decide) (fun j hj => by
    obtain ⟨c0, c1, c2, c3⟩ := BX2.out.k2.four
    match j, hj with
    | 0, _ => exact c0
    | 1, _ => exact c1
    | 2, _ => exact c2
    | 3, _ => exact c3) (fun j _ => BX2.out.k2.froz _))
  go_wp2_with fail
  refine C2.out.mono ?_
  rintro e w2 ⟨rfl, q2, rfl⟩
  have BX3 : Hd (Bm2 w.heap.size w.heap.size g2 w ((W2.drewN q2).setCells g2 0 ((b.l.take 4).reverse.map (Value.int .i64))) (rev a) (rev b)) :=
    ⟨((((BX2.out.dn q2).below.setCell BX2.out.s2 _).setCell BX2.out.s2 _).setCell BX2.out.s2 _).setCell BX2.out.s2 _, BX2.out.s1, BX2.out.s2, BX2.out.n12, ((((BX2.out.dn q2).k1.far BX2.out.n12 _).far BX2.out.n12 _).far BX2.out.n12 _).far BX2.out.n12 _, (BX2.out.dn q2).k2.setFour _ _ _ _⟩
  generalize (W2.drewN q2).setCells g2 0 ((b.l.take 4).reverse.map (Value.int .i64)) = W3 at BX3 ⊢
  obtain ⟨c0, c1, c2, c3⟩ := BX3.out.k1.four
  obtain ⟨d0, d1, d2, d3⟩ := BX3.out.k2.four
  have ht3 := (BX3.out.below.cell hgt).trans ht
  have CL := Hd.mk (Cmp_lex (rev b) (rev a) W3)
  go_wp2_with fail
  refine CL.out.mono ?_
  rintro e w4 ⟨rfl, hb⟩
  have BX4 := Hd.mk (BX3.out.up hb)
  clear hb
  go_wp2_with fail
  go_ret
  exact ⟨rfl, BX4.out.below⟩
end Go.Proofs.YtidjbiopneoeeaaGreat
/- Walks of the closure of mono.Cmp that looks at degrees first. No condition. -/
namespace Go.Proofs.YtidjbiopneoeeaaGreat
open Go.RowKit

theorem lit2_rd (w : World) (a b : Int) (t : TypeId) : RdI (w.alloc (.cells #[.int .i64 a, .int .i64 b] t)) .i64 (some ⟨w.heap.size, 0, none⟩) [a, b] := by
  have := Rd.new_ w #[.int .i64 a, .int .i64 b] t 2 1 rfl
  unfold RdI
  rw [show (w.alloc (.cells #[.int .i64 a, .int .i64 b] t)).heap.size = w.heap.size + 1 by simp]
  exact this

def orI (a b : Int) : Int := if a ≠ 0 then a else b
theorem cmp_OrI (a b : Int) (A : Option Addr) (c : Nat) (w : World) (h : RdI w .i64 A [a, b]) :
    Calls Tryz.prog 162 #[.slice A 2 c] w fun e w' => e = .returned (.int .i64 (orI a b)) ∧ w = w' := cmp_Or2 a b A c w h

theorem al_cell {w : World} {a : Addr} {v : Value} (h : w.cell? a = some v) (o : Obj) : (w.alloc o).cell? a = some v := cellUp h ((Blw.refl _ _).alloc (Nat.le_refl _) _)

set_option maxHeartbeats 8000000 in
set_option maxRecDepth 100000 in
theorem graded_lex (a b : MonD) (gt : Nat) (w : World) (ht : w.cell? ⟨gt, 0, none⟩ = some (.func (.func 158) #[] #[])) :
    Calls Tryz.prog 161 #[.agg #[.int .i64 a.x0, .int .i64 a.x1, .int .i64 a.x2, .int .i64 a.x3], .agg #[.int .i64 b.x0, .int .i64 b.x1, .int .i64 b.x2, .int .i64 b.x3], .pointer (some ⟨gt, 0, none⟩)] w fun e w' => e = .returned (.int .i64 (orI (cmpI (monDeg a) (monDeg b)) (lexC a.l b.l))) ∧ Blw w.heap.size w w' := by
  have hgt := World.block_lt_of_cell? w _ ht
  skip
  obtain ⟨R, hR⟩ : ∃ R, lexC a.l b.l = R := ⟨_, rfl⟩
  obtain ⟨da, hda⟩ : ∃ d, monDeg a = d := ⟨_, rfl⟩
  obtain ⟨db, hdb⟩ : ∃ d, monDeg b = d := ⟨_, rfl⟩
  rw [hR, hda, hdb]
  have D1 := Hd.mk (fun W => mono_Degree a W)
  have D2 := Hd.mk (fun W => mono_Degree b W)
  rw [hda] at D1
  rw [hdb] at D2
  have CT := Hd.mk (fun W => Cmp_lex a b W)
  rw [hR] at CT
  have CC := Hd.mk (fun W => cmp_Compare da db W)
  obtain ⟨k, hk⟩ : ∃ k, cmpI da db = k := ⟨_, rfl⟩
  rw [hk] at CC ⊢
  have CO := Hd.mk (fun W => cmp_OrI k R (some ⟨W.heap.size, 0, none⟩) 2 _ (lit2_rd W k R 3))
  obtain ⟨O, hO⟩ : ∃ O, orI k R = O := ⟨_, rfl⟩
  rw [hO] at CO ⊢
  clear hO
  clear hR hda hdb hk
  go_enter Tryz.func161, Tryz.ntmps161
  go_upto_region 1 with (fail)
  refine wp_gen (fun W => Bm2 w.heap.size w.heap.size (w.heap.size + 1) w W a b) (Bm2.mk2 w a b) ?_
  intro W BX
  generalize w.heap.size + 1 = g2 at BX ⊢
  obtain ⟨c0, c1, c2, c3⟩ := BX.out.k1.four
  obtain ⟨d0, d1, d2, d3⟩ := BX.out.k2.four
  have ht2 := (BX.out.below.cell hgt).trans ht
  skip
  go_region_held3 (fun w' => Hd (Blw w.heap.size w w') ∧ w'.cell? ⟨w.heap.size, 0, none⟩ = some (.int .i64 a.x0) ∧ w'.cell? ⟨w.heap.size, 1, none⟩ = some (.int .i64 a.x1) ∧ w'.cell? ⟨w.heap.size, 2, none⟩ = some (.int .i64 a.x2) ∧ w'.cell? ⟨w.heap.size, 3, none⟩ = some (.int .i64 a.x3) ∧ w'.cell? ⟨g2, 0, none⟩ = some (.int .i64 b.x0) ∧ w'.cell? ⟨g2, 1, none⟩ = some (.int .i64 b.x1) ∧ w'.cell? ⟨g2, 2, none⟩ = some (.int .i64 b.x2) ∧ w'.cell? ⟨g2, 3, none⟩ = some (.int .i64 b.x3) ∧ w'.cell? ⟨gt, 0, none⟩ = some (.func (.func 158) #[] #[]))
    (first
      | exact hS
      | exact ⟨⟨BX.out.below⟩, c0, c1, c2, c3, d0, d1, d2, d3, ht2⟩
      | exact ⟨⟨(BX.out.dn 1).below⟩, c0, c1, c2, c3, d0, d1, d2, d3, ht2⟩
      | exact ⟨⟨hS.1.out.alloc hS.1.out.size _⟩, al_cell hS.2.1 _, al_cell hS.2.2.1 _, al_cell hS.2.2.2.1 _, al_cell hS.2.2.2.2.1 _, al_cell hS.2.2.2.2.2.1 _, al_cell hS.2.2.2.2.2.2.1 _, al_cell hS.2.2.2.2.2.2.2.1 _, al_cell hS.2.2.2.2.2.2.2.2.1 _, al_cell hS.2.2.2.2.2.2.2.2.2 _⟩)
    (first
      | (go_at_call 164; obtain ⟨hB, q0, q1, q2, q3, q4, q5, q6, q7, q8⟩ := ‹Hd (Blw w.heap.size w _) ∧ _›; with_reducible refine (D1.out _).mono ?_; rintro e w4 ⟨rfl, hb⟩
         have hS := And.intro (Hd.mk (hB.out.trans (hb.mono hB.out.size))) (And.intro (cellUp q0 hb) (And.intro (cellUp q1 hb) (And.intro (cellUp q2 hb) (And.intro (cellUp q3 hb) (And.intro (cellUp q4 hb) (And.intro (cellUp q5 hb) (And.intro (cellUp q6 hb) (And.intro (cellUp q7 hb) (cellUp q8 hb))))))))))
      | (go_at_call 164; obtain ⟨hB, q0, q1, q2, q3, q4, q5, q6, q7, q8⟩ := ‹Hd (Blw w.heap.size w _) ∧ _›; with_reducible refine (D2.out _).mono ?_; rintro e w5 ⟨rfl, hb⟩
         have hS := And.intro (Hd.mk (hB.out.trans (hb.mono hB.out.size))) (And.intro (cellUp q0 hb) (And.intro (cellUp q1 hb) (And.intro (cellUp q2 hb) (And.intro (cellUp q3 hb) (And.intro (cellUp q4 hb) (And.intro (cellUp q5 hb) (And.intro (cellUp q6 hb) (And.intro (cellUp q7 hb) (cellUp q8 hb))))))))))
      | (go_at_call 163; obtain ⟨hB, q0, q1, q2, q3, q4, q5, q6, q7, q8⟩ := ‹Hd (Blw w.heap.size w _) ∧ _›; with_reducible refine (CC.out _).mono ?_; rintro e w6 ⟨rfl, rfl⟩
         have hS := And.intro hB (And.intro q0 (And.intro q1 (And.intro q2 (And.intro q3 (And.intro q4 (And.intro q5 (And.intro q6 (And.intro q7 (q8))))))))))
      | (go_at_call 158; obtain ⟨hB, q0, q1, q2, q3, q4, q5, q6, q7, q8⟩ := ‹Hd (Blw w.heap.size w _) ∧ _›; with_reducible refine (CT.out _ ).mono ?_; rintro e w7 ⟨rfl, hb⟩
         have hS := And.intro (Hd.mk (hB.out.trans (hb.mono hB.out.size))) (And.intro (cellUp q0 hb) (And.intro (cellUp q1 hb) (And.intro (cellUp q2 hb) (And.intro (cellUp q3 hb) (And.intro (cellUp q4 hb) (And.intro (cellUp q5 hb) (And.intro (cellUp q6 hb) (And.intro (cellUp q7 hb) (cellUp q8 hb))))))))))
      | (go_at_call 162; obtain ⟨hB, q0, q1, q2, q3, q4, q5, q6, q7, q8⟩ := ‹Hd (Blw w.heap.size w _) ∧ _›; with_reducible refine (CO.out _).mono ?_; rintro e w8 ⟨rfl, rfl⟩
         have hS := And.intro hB (And.intro q0 (And.intro q1 (And.intro q2 (And.intro q3 (And.intro q4 (And.intro q5 (And.intro q6 (And.intro q7 (q8)))))))))))
  all_goals (
    go_wp2_with fail
    go_ret
    exact ⟨rfl, hS.1.out⟩)

set_option maxHeartbeats 8000000 in
set_option maxRecDepth 100000 in
theorem graded_rev (a b : MonD) (gt gl : Nat) (w : World) (ht : w.cell? ⟨gt, 0, none⟩ = some (.func (.func 165) #[] #[.pointer (some ⟨gl, 0, none⟩)])) (hl : w.cell? ⟨gl, 0, none⟩ = some (.func (.func 158) #[] #[])) :
    Calls Tryz.prog 161 #[.agg #[.int .i64 a.x0, .int .i64 a.x1, .int .i64 a.x2, .int .i64 a.x3], .agg #[.int .i64 b.x0, .int .i64 b.x1, .int .i64 b.x2, .int .i64 b.x3], .pointer (some ⟨gt, 0, none⟩)] w fun e w' => e = .returned (.int .i64 (orI (cmpI (monDeg a) (monDeg b)) (lexC (rev b).l (rev a).l))) ∧ Blw w.heap.size w w' := by
  have hgt := World.block_lt_of_cell? w _ ht
  have hgl := World.block_lt_of_cell? w _ hl
  obtain ⟨R, hR⟩ : ∃ R, lexC (rev b).l (rev a).l = R := ⟨_, rfl⟩
  obtain ⟨da, hda⟩ : ∃ d, monDeg a = d := ⟨_, rfl⟩
  obtain ⟨db, hdb⟩ : ∃ d, monDeg b = d := ⟨_, rfl⟩
  rw [hR, hda, hdb]
  have D1 := Hd.mk (fun W => mono_Degree a W)
  have D2 := Hd.mk (fun W => mono_Degree b W)
  rw [hda] at D1
  rw [hdb] at D2
  have CT := Hd.mk (fun W hq => Cmp_rev a b gl W hq)
  rw [hR] at CT
  have CC := Hd.mk (fun W => cmp_Compare da db W)
  obtain ⟨k, hk⟩ : ∃ k, cmpI da db = k := ⟨_, rfl⟩
  rw [hk] at CC ⊢
  have CO := Hd.mk (fun W => cmp_OrI k R (some ⟨W.heap.size, 0, none⟩) 2 _ (lit2_rd W k R 3))
  obtain ⟨O, hO⟩ : ∃ O, orI k R = O := ⟨_, rfl⟩
  rw [hO] at CO ⊢
  clear hO
  clear hR hda hdb hk
  go_enter Tryz.func161, Tryz.ntmps161
  go_upto_region 1 with (fail)
  refine wp_gen (fun W => Bm2 w.heap.size w.heap.size (w.heap.size + 1) w W a b) (Bm2.mk2 w a b) ?_
  intro W BX
  generalize w.heap.size + 1 = g2 at BX ⊢
  obtain ⟨c0, c1, c2, c3⟩ := BX.out.k1.four
  obtain ⟨d0, d1, d2, d3⟩ := BX.out.k2.four
  have ht2 := (BX.out.below.cell hgt).trans ht
  have hl2 := (BX.out.below.cell hgl).trans hl
  go_region_held3 (fun w' => Hd (Blw w.heap.size w w') ∧ w'.cell? ⟨w.heap.size, 0, none⟩ = some (.int .i64 a.x0) ∧ w'.cell? ⟨w.heap.size, 1, none⟩ = some (.int .i64 a.x1) ∧ w'.cell? ⟨w.heap.size, 2, none⟩ = some (.int .i64 a.x2) ∧ w'.cell? ⟨w.heap.size, 3, none⟩ = some (.int .i64 a.x3) ∧ w'.cell? ⟨g2, 0, none⟩ = some (.int .i64 b.x0) ∧ w'.cell? ⟨g2, 1, none⟩ = some (.int .i64 b.x1) ∧ w'.cell? ⟨g2, 2, none⟩ = some (.int .i64 b.x2) ∧ w'.cell? ⟨g2, 3, none⟩ = some (.int .i64 b.x3) ∧ w'.cell? ⟨gt, 0, none⟩ = some (.func (.func 165) #[] #[.pointer (some ⟨gl, 0, none⟩)]) ∧ w'.cell? ⟨gl, 0, none⟩ = some (.func (.func 158) #[] #[]))
    (first
      | exact hS
      | exact ⟨⟨BX.out.below⟩, c0, c1, c2, c3, d0, d1, d2, d3, ht2, hl2⟩
      | exact ⟨⟨(BX.out.dn 1).below⟩, c0, c1, c2, c3, d0, d1, d2, d3, ht2, hl2⟩
      | exact ⟨⟨hS.1.out.alloc hS.1.out.size _⟩, al_cell hS.2.1 _, al_cell hS.2.2.1 _, al_cell hS.2.2.2.1 _, al_cell hS.2.2.2.2.1 _, al_cell hS.2.2.2.2.2.1 _, al_cell hS.2.2.2.2.2.2.1 _, al_cell hS.2.2.2.2.2.2.2.1 _, al_cell hS.2.2.2.2.2.2.2.2.1 _, al_cell hS.2.2.2.2.2.2.2.2.2.1 _, al_cell hS.2.2.2.2.2.2.2.2.2.2 _⟩)
    (first
      | (go_at_call 164; obtain ⟨hB, q0, q1, q2, q3, q4, q5, q6, q7, q8, q9⟩ := ‹Hd (Blw w.heap.size w _) ∧ _›; with_reducible refine (D1.out _).mono ?_; rintro e w4 ⟨rfl, hb⟩
         have hS := And.intro (Hd.mk (hB.out.trans (hb.mono hB.out.size))) (And.intro (cellUp q0 hb) (And.intro (cellUp q1 hb) (And.intro (cellUp q2 hb) (And.intro (cellUp q3 hb) (And.intro (cellUp q4 hb) (And.intro (cellUp q5 hb) (And.intro (cellUp q6 hb) (And.intro (cellUp q7 hb) (And.intro (cellUp q8 hb) (cellUp q9 hb)))))))))))
      | (go_at_call 164; obtain ⟨hB, q0, q1, q2, q3, q4, q5, q6, q7, q8, q9⟩ := ‹Hd (Blw w.heap.size w _) ∧ _›; with_reducible refine (D2.out _).mono ?_; rintro e w5 ⟨rfl, hb⟩
         have hS := And.intro (Hd.mk (hB.out.trans (hb.mono hB.out.size))) (And.intro (cellUp q0 hb) (And.intro (cellUp q1 hb) (And.intro (cellUp q2 hb) (And.intro (cellUp q3 hb) (And.intro (cellUp q4 hb) (And.intro (cellUp q5 hb) (And.intro (cellUp q6 hb) (And.intro (cellUp q7 hb) (And.intro (cellUp q8 hb) (cellUp q9 hb)))))))))))
      | (go_at_call 163; obtain ⟨hB, q0, q1, q2, q3, q4, q5, q6, q7, q8, q9⟩ := ‹Hd (Blw w.heap.size w _) ∧ _›; with_reducible refine (CC.out _).mono ?_; rintro e w6 ⟨rfl, rfl⟩
         have hS := And.intro hB (And.intro q0 (And.intro q1 (And.intro q2 (And.intro q3 (And.intro q4 (And.intro q5 (And.intro q6 (And.intro q7 (And.intro q8 (q9)))))))))))
      | (go_at_call 165; obtain ⟨hB, q0, q1, q2, q3, q4, q5, q6, q7, q8, q9⟩ := ‹Hd (Blw w.heap.size w _) ∧ _›; with_reducible refine (CT.out _ q9).mono ?_; rintro e w7 ⟨rfl, hb⟩
         have hS := And.intro (Hd.mk (hB.out.trans (hb.mono hB.out.size))) (And.intro (cellUp q0 hb) (And.intro (cellUp q1 hb) (And.intro (cellUp q2 hb) (And.intro (cellUp q3 hb) (And.intro (cellUp q4 hb) (And.intro (cellUp q5 hb) (And.intro (cellUp q6 hb) (And.intro (cellUp q7 hb) (And.intro (cellUp q8 hb) (cellUp q9 hb)))))))))))
      | (go_at_call 162; obtain ⟨hB, q0, q1, q2, q3, q4, q5, q6, q7, q8, q9⟩ := ‹Hd (Blw w.heap.size w _) ∧ _›; with_reducible refine (CO.out _).mono ?_; rintro e w8 ⟨rfl, rfl⟩
         have hS := And.intro hB (And.intro q0 (And.intro q1 (And.intro q2 (And.intro q3 (And.intro q4 (And.intro q5 (And.intro q6 (And.intro q7 (And.intro q8 (q9))))))))))))
  all_goals (
    go_wp2_with fail
    go_ret
    exact ⟨rfl, hS.1.out⟩)
end Go.Proofs.YtidjbiopneoeeaaGreat
/- The walk of mono.Cmp. No condition. -/
namespace Go.Proofs.YtidjbiopneoeeaaGreat
open Go.RowKit

theorem Cmp_2 (F : FuncId) (cap : Array Value) (w : World) :
    Calls Tryz.prog 160 #[.func (.func F) #[] cap] w fun e w' => ∃ g, e = .returned (.func (.func 161) #[] #[.pointer (some ⟨g, 0, none⟩)]) ∧ w.heap.size ≤ g ∧ Bk w' g 194 #[.func (.func F) #[] cap] ∧ Blw w.heap.size w w' := by
  go_enter Tryz.func160, Tryz.ntmps160
  go_wp2_with fail
  go_ret
  exact ⟨_, rfl, Nat.le_refl _, Bk.new_ _ _ _, (Blw.refl _ _).alloc (Nat.le_refl _) _⟩


def monCmp (order : Int) (a b : MonD) : Int :=
  if (!monMay a || !monMay b || decide (order < 0) || decide (3 ≤ order)) = true then 0
  else if order = 0 then lexC a.l b.l else if order = 1 then orI (cmpI (monDeg a) (monDeg b)) (lexC a.l b.l) else orI (cmpI (monDeg a) (monDeg b)) (lexC (rev b).l (rev a).l)

/-- what mono.Cmp has laid ahead of its look-up -/
structure Mq (S g1 g2 gl gA gB g10 : Nat) (w0 w : World) (a b : MonD) : Prop where
  bm : Bm2 S g1 g2 w0 w a b
  kl : Bk w gl 194 #[(.func (.func 158) #[] #[])]
  kA : Bk w gA 194 #[(.func (.func 158) #[] #[])]
  kB : Bk w gB 194 #[(.func (.func 165) #[] #[.pointer (some ⟨gl, 0, none⟩)])]
  k10 : Bk w g10 200 #[(.func (.func 158) #[] #[]), (.func (.func 161) #[] #[.pointer (some ⟨gA, 0, none⟩)]), (.func (.func 161) #[] #[.pointer (some ⟨gB, 0, none⟩)])]
theorem Mq.up {S g1 g2 gl gA gB g10 : Nat} {w0 w w' : World} {a b : MonD} (h : Mq S g1 g2 gl gA gB g10 w0 w a b) (hb : Blw w.heap.size w w') : Mq S g1 g2 gl gA gB g10 w0 w' a b :=
  ⟨h.bm.up hb, h.kl.up hb.lo, h.kA.up hb.lo, h.kB.up hb.lo, h.k10.up hb.lo⟩
theorem Mq.dn {S g1 g2 gl gA gB g10 : Nat} {w0 w : World} {a b : MonD} (h : Mq S g1 g2 gl gA gB g10 w0 w a b) (n : Nat) : Mq S g1 g2 gl gA gB g10 w0 (w.drewN n) a b :=
  ⟨h.bm.dn n, h.kl, h.kA, h.kB, h.k10⟩

set_option maxHeartbeats 4000000 in
set_option maxRecDepth 100000 in
theorem mono_Cmp (order : Int) (a b : MonD) (w : World) :
    Calls Tryz.prog 94 #[.int .i64 order, .agg #[.int .i64 a.x0, .int .i64 a.x1, .int .i64 a.x2, .int .i64 a.x3], .agg #[.int .i64 b.x0, .int .i64 b.x1, .int .i64 b.x2, .int .i64 b.x3]] w fun e w' => e = .returned (.int .i64 (monCmp order a b)) ∧ Blw w.heap.size w w' := by
  go_enter Tryz.func94, Tryz.ntmps94
  go_upto_region 1 with (fail)
  refine wp_gen (fun W => Bm2 w.heap.size w.heap.size (w.heap.size + 1) w W a b) (Bm2.mk2 w a b) ?_
  intro W BX
  generalize w.heap.size + 1 = g2 at BX ⊢
  go_upto_region 4 with (fail)
  refine wp_gen (fun W2 => Bm2 w.heap.size w.heap.size g2 w W2 a b ∧ w.heap.size ≤ W.heap.size ∧ Bk W2 W.heap.size 194 #[.func (.func 158) #[] #[]]) ⟨BX.out.up ((Blw.refl _ _).alloc (Nat.le_refl _) _), BX.out.below.size, Bk.new_ _ _ _⟩ ?_
  intro W2 BY
  generalize W.heap.size = gl at BY ⊢
  clear BX
  have l0 := BY.out.2.2.one
  have hgl : W2.heap.size ≠ gl := fun e => by have := BY.out.2.2.lt; omega
  have hgl4 : ¬ (W2.heap.size ≤ gl) := fun e => by have := BY.out.2.2.lt; omega
  have C1 := Hd.mk (fun W => Cmp_2 158 #[] W)
  have C2 := Hd.mk (fun W => Cmp_2 165 #[.pointer (some ⟨gl, 0, none⟩)] W)
  go_cut [10] (fun v10 wx => ∃ g10 gA gB : Nat, v10 = .pointer (some ⟨g10, 0, none⟩) ∧ Hd (Blw W2.heap.size W2 wx) ∧ Hd (Bk wx g10 200 #[(.func (.func 158) #[] #[]), (.func (.func 161) #[] #[.pointer (some ⟨gA, 0, none⟩)]), (.func (.func 161) #[] #[.pointer (some ⟨gB, 0, none⟩)])]) ∧ Hd (Bk wx gA 194 #[(.func (.func 158) #[] #[])]) ∧ Hd (Bk wx gB 194 #[(.func (.func 165) #[] #[.pointer (some ⟨gl, 0, none⟩)])]))
  case first =>
    go_region_held3 (fun w' => Hd (Blw W2.heap.size W2 w') ∧ w'.cell? ⟨gl, 0, none⟩ = some (.func (.func 158) #[] #[]))
      (first
        | exact hS
        | exact ⟨⟨Blw.refl _ _⟩, l0⟩
        | exact ⟨⟨Blw.dn (Blw.refl W2.heap.size W2) 1⟩, l0⟩
        | exact sal' hS _
        | exact sal' ⟨⟨Blw.refl W2.heap.size W2⟩, l0⟩ _
        | exact sal' ⟨⟨Blw.dn (Blw.refl W2.heap.size W2) 1⟩, l0⟩ _
        | exact ⟨⟨((hS.1.out.setCell HR2.out.1 _).setCell HR2.out.1 _).setCell HR2.out.1 _⟩, (far1 rfl hnl).trans ((far1 rfl hnl).trans ((far1 rfl hnl).trans hS.2))⟩)
      (first
      | (go_at_call 160; obtain ⟨hB, q1⟩ := ‹Hd (Blw W2.heap.size W2 _) ∧ _›; with_reducible refine (C1.out (W2.drew)).mono ?_; rintro e w4 ⟨gA, rfl, hgA, hkA, hb⟩
         have hS := And.intro (Hd.mk (hB.out.trans (hb.mono hB.out.size))) (cellUp q1 hb)
         have HA := Hd.mk (And.intro (Nat.le_trans hB.out.size hgA) hkA)
         clear hgA hkA)
      | (go_at_call 160; obtain ⟨hB, q1⟩ := ‹Hd (Blw W2.heap.size W2 _) ∧ _›; with_reducible refine (C1.out ((W2.alloc (Obj.cells #[.nilFunc, .nilFunc, .nilFunc] 200)).drew)).mono ?_; rintro e w4 ⟨gA, rfl, hgA, hkA, hb⟩
         have hS := And.intro (Hd.mk (hB.out.trans (hb.mono hB.out.size))) (cellUp q1 hb)
         have HA := Hd.mk (And.intro (Nat.le_trans hB.out.size hgA) hkA)
         have HR := Hd.mk (And.intro (Nat.le_refl W2.heap.size) (Bk.up (Bk.dn (Bk.new_ W2 200 #[.nilFunc, .nilFunc, .nilFunc]) 1) hb.lo))
         clear hgA hkA)
      | (go_at_call 160; obtain ⟨hB, q1⟩ := ‹Hd (Blw W2.heap.size W2 _) ∧ _›; with_reducible refine (C2.out (w4)).mono ?_; rintro e w5 ⟨gB, rfl, hgB, hkB, hb⟩
         have hS := And.intro (Hd.mk (hB.out.trans (hb.mono hB.out.size))) (cellUp q1 hb)
         have HA2 := Hd.mk (And.intro HA.out.1 (Bk.up HA.out.2 hb.lo))
         have HBB := Hd.mk (And.intro (Nat.le_trans (Blw.size hB.out) hgB) hkB)
         have HR2 := Hd.mk (And.intro HR.out.1 (Bk.up HR.out.2 hb.lo))
         have hnl : W2.heap.size ≠ gl := hgl
         obtain ⟨p6, p7, p8⟩ := HR2.out.2.three
         have fz := fun i => HR2.out.2.froz i
         clear hgB hkB)
      | (go_at_call 160; obtain ⟨hB, q1⟩ := ‹Hd (Blw W2.heap.size W2 _) ∧ _›; with_reducible refine (C2.out (w4)).mono ?_; rintro e w5 ⟨gB, rfl, hgB, hkB, hb⟩
         have hS := And.intro (Hd.mk (hB.out.trans (hb.mono hB.out.size))) (cellUp q1 hb)
         have HA2 := Hd.mk (And.intro HA.out.1 (Bk.up HA.out.2 hb.lo))
         have HBB := Hd.mk (And.intro (Nat.le_trans (Blw.size hB.out) hgB) hkB)
         clear hgB hkB)
      | (go_at_call 160; obtain ⟨hB, q1⟩ := ‹Hd (Blw W2.heap.size W2 _) ∧ _›; with_reducible refine (C2.out (w4.alloc (Obj.cells #[.nilFunc, .nilFunc, .nilFunc] 200))).mono ?_; rintro e w5 ⟨gB, rfl, hgB, hkB, hb⟩
         have hS := And.intro (Hd.mk (hB.out.trans (hb.mono hB.out.size))) (cellUp q1 hb)
         have HA2 := Hd.mk (And.intro HA.out.1 (Bk.up (Bk.al HA.out.2 (Obj.cells #[.nilFunc, .nilFunc, .nilFunc] 200)) hb.lo))
         have HBB := Hd.mk (And.intro (Nat.le_trans (Blw.size hB.out) hgB) hkB)
         have HR2 := Hd.mk (And.intro (Nat.le_trans HA.out.1 (Nat.le_of_lt HA.out.2.lt)) (Bk.up (Bk.new_ w4 200 #[.nilFunc, .nilFunc, .nilFunc]) hb.lo))
         have hnl : w4.heap.size ≠ gl := fun e => hgl4 (e ▸ (Nat.le_trans HA.out.1 (Nat.le_of_lt HA.out.2.lt)))
         obtain ⟨p6, p7, p8⟩ := HR2.out.2.three
         have fz := fun i => HR2.out.2.froz i
         clear hgB hkB))
    · go_wp2_with fail
      go_meet
      exact ⟨w5.heap.size, gA, gB, rfl, ⟨hS.1.out.trans (((Blw.refl _ _).alloc (Nat.le_refl _) _).mono hS.1.out.size)⟩, ⟨Bk.new_ _ _ _⟩, ⟨HA2.out.2.al _⟩, ⟨HBB.out.2.al _⟩⟩
    all_goals (
      go_wp2_with fail
      go_meet
      have nA := Bk.ne_ HA2.out.2 HR2.out.2 (by decide)
      have nB := Bk.ne_ HBB.out.2 HR2.out.2 (by decide)
      exact ⟨_, gA, gB, rfl, ⟨((hS.1.out.setCell HR2.out.1 _).setCell HR2.out.1 _).setCell HR2.out.1 _⟩, ⟨HR2.out.2.set3 _ _ _⟩, ⟨((HA2.out.2.far nA _).far nA _).far nA _⟩, ⟨((HBB.out.2.far nB _).far nB _).far nB _⟩⟩)
  case rest =>
    obtain ⟨g10, gA, gB, rfl, hB, k10, kA, kB⟩ := hcut
    have BQ : Hd (Mq w.heap.size w.heap.size g2 gl gA gB g10 w wc a b) := ⟨BY.out.1.up hB.out, BY.out.2.2.up hB.out, kA.out, kB.out, k10.out⟩
    clear BY hB k10 kA kB C1 C2 l0 hgl hgl4
    obtain ⟨c0, c1, c2, c3⟩ := BQ.out.bm.k1.four
    have CA := Hd.mk (mono_May a wc)
    cases hma : monMay a
    · have HE : Hd (monCmp order a b = 0) := ⟨by unfold monCmp; rw [hma]; rfl⟩
      rw [hma] at CA
      go_wp2_with fail
      refine CA.out.mono ?_
      rintro e w4 ⟨rfl, hb⟩
      have BQ4 := Hd.mk (BQ.out.up hb)
      clear hb
      go_wp2_with fail
      go_ret
      exact ⟨retInt HE.out.symm, BQ4.out.bm.below⟩
    · rw [hma] at CA
      go_wp2_with fail
      refine CA.out.mono ?_
      rintro e w4 ⟨rfl, hb⟩
      have BQ4 := Hd.mk (BQ.out.up hb)
      obtain ⟨d0, d1, d2, d3⟩ := BQ4.out.bm.k2.four
      have CB := Hd.mk (mono_May b w4)
      clear hb c0 c1 c2 c3 BQ CA
      cases hmb : monMay b
      · have HE : Hd (monCmp order a b = 0) := ⟨by unfold monCmp; rw [hmb]; simp⟩
        rw [hmb] at CB
        go_wp2_with fail
        refine CB.out.mono ?_
        rintro e w5 ⟨rfl, hb⟩
        have BQ5 := Hd.mk (BQ4.out.up hb)
        clear hb
        go_wp2_with fail
        go_ret
        exact ⟨retInt HE.out.symm, BQ5.out.bm.below⟩
      · rw [hmb] at CB
        by_cases ho1 : order < 0
        · have HE : Hd (monCmp order a b = 0) := ⟨by unfold monCmp; rw [decide_eq_true ho1]; simp⟩
          have e1 : decide (order < 0) = true := decide_eq_true ho1
          clear ho1
          go_wp2_with fail
          refine CB.out.mono ?_
          rintro e w5 ⟨rfl, hb⟩
          have BQ5 := Hd.mk (BQ4.out.up hb)
          clear hb
          go_wp2_with fail
          go_ret
          exact ⟨retInt HE.out.symm, BQ5.out.bm.below⟩
        · by_cases ho2 : 3 ≤ order
          · have HE : Hd (monCmp order a b = 0) := ⟨by unfold monCmp; rw [decide_eq_true ho2]; simp⟩
            have e1 : decide (order < 0) = false := decide_eq_false ho1
            have e2 : decide (3 ≤ order) = true := decide_eq_true ho2
            clear ho1 ho2
            go_wp2_with fail
            refine CB.out.mono ?_
            rintro e w5 ⟨rfl, hb⟩
            have BQ5 := Hd.mk (BQ4.out.up hb)
            clear hb
            go_wp2_with fail
            go_ret
            exact ⟨retInt HE.out.symm, BQ5.out.bm.below⟩
          · have HE : Hd (monCmp order a b = if order = 0 then lexC a.l b.l else if order = 1 then orI (cmpI (monDeg a) (monDeg b)) (lexC a.l b.l) else orI (cmpI (monDeg a) (monDeg b)) (lexC (rev b).l (rev a).l)) := ⟨by
              unfold monCmp; rw [hma, hmb, decide_eq_false ho1, decide_eq_false ho2]; rfl⟩
            have F1 := Hd.mk (fun W => Cmp_lex a b W)
            have F2 := Hd.mk (fun W h => graded_lex a b gA W h)
            have F3 := Hd.mk (fun W h h' => graded_rev a b gB gl W h h')
            clear hma hmb
            rcases (show order = 0 ∨ order = 1 ∨ order = 2 by omega) with rfl | rfl | rfl
            · clear ho1 ho2
              go_wp2_with fail
              refine CB.out.mono ?_
              rintro e w5 ⟨rfl, hb⟩
              have BQ5 := Hd.mk (BQ4.out.up hb)
              obtain ⟨c0, c1, c2, c3⟩ := BQ5.out.bm.k1.four
              obtain ⟨d0, d1, d2, d3⟩ := BQ5.out.bm.k2.four
              obtain ⟨t0, t1, t2⟩ := BQ5.out.k10.three
              clear hb
              go_wp2_with fail
              go_region_held3 (fun w' => Hd (Mq w.heap.size w.heap.size g2 gl gA gB g10 w w' a b) ∧ w'.cell? ⟨g10, 0, none⟩ = some (.func (.func 158) #[] #[]) ∧
                  w'.cell? ⟨w.heap.size, 0, none⟩ = some (.int .i64 a.x0) ∧ w'.cell? ⟨w.heap.size, 1, none⟩ = some (.int .i64 a.x1) ∧ w'.cell? ⟨w.heap.size, 2, none⟩ = some (.int .i64 a.x2) ∧ w'.cell? ⟨w.heap.size, 3, none⟩ = some (.int .i64 a.x3) ∧
                  w'.cell? ⟨g2, 0, none⟩ = some (.int .i64 b.x0) ∧ w'.cell? ⟨g2, 1, none⟩ = some (.int .i64 b.x1) ∧ w'.cell? ⟨g2, 2, none⟩ = some (.int .i64 b.x2) ∧ w'.cell? ⟨g2, 3, none⟩ = some (.int .i64 b.x3))
                (first
                  | exact hS
                  | exact ⟨BQ5, t0, c0, c1, c2, c3, d0, d1, d2, d3⟩
                  | exact ⟨⟨BQ5.out.dn 1⟩, t0, c0, c1, c2, c3, d0, d1, d2, d3⟩)
                (first
                  | (go_at_call 158; obtain ⟨hB, q0, q1, q2, q3, q4, q5, q6, q7, q8⟩ := ‹Hd (Mq w.heap.size w.heap.size g2 gl gA gB g10 w _ a b) ∧ _›; with_reducible refine (F1.out _).mono ?_; rintro e w6 ⟨rfl, hb⟩
                     have BQ6 := Hd.mk (hB.out.up hb)
                     have hS := And.intro BQ6 (And.intro (cellUp q0 hb) (And.intro (cellUp q1 hb) (And.intro (cellUp q2 hb) (And.intro (cellUp q3 hb) (And.intro (cellUp q4 hb) (And.intro (cellUp q5 hb) (And.intro (cellUp q6 hb) (And.intro (cellUp q7 hb) (cellUp q8 hb)))))))))))
              all_goals (
                go_wp2_with fail
                go_ret
                exact ⟨retInt HE.out.symm, hS.1.out.bm.below⟩)
            
            · clear ho1 ho2
              go_wp2_with fail
              refine CB.out.mono ?_
              rintro e w5 ⟨rfl, hb⟩
              have BQ5 := Hd.mk (BQ4.out.up hb)
              obtain ⟨c0, c1, c2, c3⟩ := BQ5.out.bm.k1.four
              obtain ⟨d0, d1, d2, d3⟩ := BQ5.out.bm.k2.four
              obtain ⟨t0, t1, t2⟩ := BQ5.out.k10.three
              clear hb
              go_wp2_with fail
              go_region_held3 (fun w' => Hd (Mq w.heap.size w.heap.size g2 gl gA gB g10 w w' a b) ∧ w'.cell? ⟨g10, 1, none⟩ = some (.func (.func 161) #[] #[.pointer (some ⟨gA, 0, none⟩)]) ∧
                  w'.cell? ⟨w.heap.size, 0, none⟩ = some (.int .i64 a.x0) ∧ w'.cell? ⟨w.heap.size, 1, none⟩ = some (.int .i64 a.x1) ∧ w'.cell? ⟨w.heap.size, 2, none⟩ = some (.int .i64 a.x2) ∧ w'.cell? ⟨w.heap.size, 3, none⟩ = some (.int .i64 a.x3) ∧
                  w'.cell? ⟨g2, 0, none⟩ = some (.int .i64 b.x0) ∧ w'.cell? ⟨g2, 1, none⟩ = some (.int .i64 b.x1) ∧ w'.cell? ⟨g2, 2, none⟩ = some (.int .i64 b.x2) ∧ w'.cell? ⟨g2, 3, none⟩ = some (.int .i64 b.x3))
                (first
                  | exact hS
                  | exact ⟨BQ5, t1, c0, c1, c2, c3, d0, d1, d2, d3⟩
                  | exact ⟨⟨BQ5.out.dn 1⟩, t1, c0, c1, c2, c3, d0, d1, d2, d3⟩)
                (first
                  | (go_at_call 161; obtain ⟨hB, q0, q1, q2, q3, q4, q5, q6, q7, q8⟩ := ‹Hd (Mq w.heap.size w.heap.size g2 gl gA gB g10 w _ a b) ∧ _›; with_reducible refine (F2.out _ hB.out.kA.one).mono ?_; rintro e w6 ⟨rfl, hb⟩
                     have BQ6 := Hd.mk (hB.out.up hb)
                     have hS := And.intro BQ6 (And.intro (cellUp q0 hb) (And.intro (cellUp q1 hb) (And.intro (cellUp q2 hb) (And.intro (cellUp q3 hb) (And.intro (cellUp q4 hb) (And.intro (cellUp q5 hb) (And.intro (cellUp q6 hb) (And.intro (cellUp q7 hb) (cellUp q8 hb)))))))))))
              all_goals (
                go_wp2_with fail
                go_ret
                exact ⟨retInt HE.out.symm, hS.1.out.bm.below⟩)
            
            · clear ho1 ho2
              go_wp2_with fail
              refine CB.out.mono ?_
              rintro e w5 ⟨rfl, hb⟩
              have BQ5 := Hd.mk (BQ4.out.up hb)
              obtain ⟨c0, c1, c2, c3⟩ := BQ5.out.bm.k1.four
              obtain ⟨d0, d1, d2, d3⟩ := BQ5.out.bm.k2.four
              obtain ⟨t0, t1, t2⟩ := BQ5.out.k10.three
              clear hb
              go_wp2_with fail
              go_region_held3 (fun w' => Hd (Mq w.heap.size w.heap.size g2 gl gA gB g10 w w' a b) ∧ w'.cell? ⟨g10, 2, none⟩ = some (.func (.func 161) #[] #[.pointer (some ⟨gB, 0, none⟩)]) ∧
                  w'.cell? ⟨w.heap.size, 0, none⟩ = some (.int .i64 a.x0) ∧ w'.cell? ⟨w.heap.size, 1, none⟩ = some (.int .i64 a.x1) ∧ w'.cell? ⟨w.heap.size, 2, none⟩ = some (.int .i64 a.x2) ∧ w'.cell? ⟨w.heap.size, 3, none⟩ = some (.int .i64 a.x3) ∧
                  w'.cell? ⟨g2, 0, none⟩ = some (.int .i64 b.x0) ∧ w'.cell? ⟨g2, 1, none⟩ = some (.int .i64 b.x1) ∧ w'.cell? ⟨g2, 2, none⟩ = some (.int .i64 b.x2) ∧ w'.cell? ⟨g2, 3, none⟩ = some (.int .i64 b.x3))
                (first
                  | exact hS
                  | exact ⟨BQ5, t2, c0, c1, c2, c3, d0, d1, d2, d3⟩
                  | exact ⟨⟨BQ5.out.dn 1⟩, t2, c0, c1, c2, c3, d0, d1, d2, d3⟩)
                (first
                  | (go_at_call 161; obtain ⟨hB, q0, q1, q2, q3, q4, q5, q6, q7, q8⟩ := ‹Hd (Mq w.heap.size w.heap.size g2 gl gA gB g10 w _ a b) ∧ _›; with_reducible refine (F3.out _ hB.out.kB.one hB.out.kl.one).mono ?_; rintro e w6 ⟨rfl, hb⟩
                     have BQ6 := Hd.mk (hB.out.up hb)
                     have hS := And.intro BQ6 (And.intro (cellUp q0 hb) (And.intro (cellUp q1 hb) (And.intro (cellUp q2 hb) (And.intro (cellUp q3 hb) (And.intro (cellUp q4 hb) (And.intro (cellUp q5 hb) (And.intro (cellUp q6 hb) (And.intro (cellUp q7 hb) (cellUp q8 hb)))))))))))
              all_goals (
                go_wp2_with fail
                go_ret
                exact ⟨retInt HE.out.symm, hS.1.out.bm.below⟩)
end Go.Proofs.YtidjbiopneoeeaaGreat
