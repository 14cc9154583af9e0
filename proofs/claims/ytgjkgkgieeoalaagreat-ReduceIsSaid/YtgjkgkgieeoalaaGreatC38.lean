/- Parts of the proof, joined: each theorem says what it shows. -/
import Derived.Test.YtgjkgkgieeoalaaGreatC37
import Derived.Test.YtgjkgkgieeoalaaGreatC29
import Derived.Test.YtgjkgkgieeoalaaGreatC26
import Derived.Test.YtgjkgkgieeoalaaGreatC25
import Derived.Test.YtgjkgkgieeoalaaGreatC21
set_option linter.unusedVariables false
set_option linter.unusedSimpArgs false
set_option maxHeartbeats 24000000
set_option maxRecDepth 100000
namespace Go.Proofs.YtgjkgkgieeoalaaGreat
open Go.RowKit
def Looks (F : FuncId) (cb : Array Value) (b0 : Nat) (f : List TermD → Bool) (ps : List (List TermD)) (w : World) : Prop :=
 ∀ (W : World) (a : Option Addr) (pc : Nat) (p : List TermD), Below w.heap.size w W → p ∈ ps → RPol W b0 a p → p.length ≤ pc → Calls Tryz.prog F (#[.slice a p.length pc] ++ cb) W fun e w' => e = .returned (.bool (f p)) ∧ Below W.heap.size W w'
theorem polys_Index (F : FuncId) (cb : Array Value) (eg : ∀ args w, (callFunc F args).run Tryz.prog w = .ok (.enter F args) w) (b0 : Nat) (f : List TermD → Bool) (A : Option Addr) (c : Nat) (ps : List (List TermD)) (w : World) (h : RPols w b0 A ps) (hl : ps.length ≤ 1000) (hf : Looks F cb b0 f ps w) :
    Calls Tryz.prog 187 #[.slice A ps.length c, .func (.func F) #[] cb] w fun e w' => ∃ i : Int, e = .returned (.int .i64 i) ∧ decide (0 ≤ i) = ps.any f ∧ Below w.heap.size w w' := by
 have H := Hd.mk h
 have HF := Hd.mk hf
 clear h hf
 go_enter Tryz.func187, Tryz.ntmps187
 go_wp2_with fail
 go_loopw [8] (fun v wr => ∃ i : Nat, v = .int .i64 i ∧ i ≤ ps.length ∧ Hd ((ps.take i).any f = false) ∧ Hd (Below w.heap.size w wr)) (fun v _ => ps.length - (intOf v).toNat)
 case atStart => exact ⟨0, rfl, by omega, ⟨rfl⟩, ⟨.refl _ _⟩⟩
 case round =>
  obtain ⟨i, rfl, hi, ht, hb⟩ := hrel
  by_cases hlt : i < ps.length
  ·obtain ⟨ad, a, pc, t, rfl, hab, hti, hcell, hpc, hrt⟩ := (H.out.up hb.out).get hlt
   have i2 : (i : Int) < ps.length := by omega
   have i3 : (0 : Int) ≤ i := by omega
   have CB := Hd.mk (HF.out wr a pc t hb.out (List.mem_of_getElem? hti.out) hrt.out hpc)
   have hsn : Hd ((ps.take (i + 1)).any f = ((ps.take i).any f || f t)) := ⟨by
    rw [List.take_add_one, hti.out, List.any_append]; simp⟩
   clear hrt
   cases h8 : f t
   case true =>
    rw [h8] at CB hsn
    clear h8
    go_wp2_with (go_at_fn F; refine CB.out.mono ?_; rintro e w' ⟨rfl, hb2⟩; have HB := Hd.mk (hb.out.trans (hb2.mono hb.out.size)); clear hb2 hcell)
    go_ret
    refine ⟨_, rfl, ?_, HB.out⟩
    have h1 := hsn.out
    rw [Bool.or_true] at h1
    rw [decide_eq_true (by omega : (0 : Int) ≤ i)]
    conv => rhs; rw [← List.take_append_drop (i + 1) ps]
    rw [List.any_append, h1]; rfl
   case false =>
    rw [h8] at CB hsn
    clear h8
    go_wp2_with (go_at_fn F; refine CB.out.mono ?_; rintro e w' ⟨rfl, hb2⟩; have HB := Hd.mk (hb.out.trans (hb2.mono hb.out.size)); clear hb2 hcell)
    go_roundw
    case measure => first | (simp [intOf]; done) | (simp [intOf]; omega)
    case rel => exact ⟨i + 1, by go_num, by omega, ⟨by rw [hsn.out, ht.out]; rfl⟩, HB⟩
  ·have hie : i = ps.length := by omega
   subst hie
   go_wp2_with fail
   go_ret
   refine ⟨_, rfl, ?_, hb.out⟩
   have := ht.out
   rw [List.take_length] at this
   rw [this]; rfl
theorem polys_Contains (F : FuncId) (cb : Array Value) (eg : ∀ args w, (callFunc F args).run Tryz.prog w = .ok (.enter F args) w) (b0 : Nat) (f : List TermD → Bool) (A : Option Addr) (c : Nat) (ps : List (List TermD)) (w : World) (h : RPols w b0 A ps) (hl : ps.length ≤ 1000) (hf : Looks F cb b0 f ps w) :
    Calls Tryz.prog 110 #[.slice A ps.length c, .func (.func F) #[] cb] w fun e w' => e = .returned (.bool (ps.any f)) ∧ Below w.heap.size w w' := by
 have hi := Hd.mk (polys_Index F cb eg b0 f A c ps w h hl hf)
 clear h hf
 go_enter Tryz.func110, Tryz.ntmps110
 go_wp2_with fail
 refine hi.out.mono ?_
 rintro e w' ⟨i, rfl, hib, hb⟩
 have HIB := Hd.mk hib
 have HB := Hd.mk hb
 clear hib hb
 go_wp2_with fail
 go_ret
 exact ⟨retBool HIB.out, HB.out⟩
theorem add_none (p : Addr) : p.add 0 = p := by unfold Addr.add; simp
theorem basis_1 {b0 g : Nat} {o : Int} {A : Option Addr} {c : Nat} {ts : List TermD} {w : World} (hk : Bk w g 3 #[.int .i64 o]) (h : RPol w b0 A ts) (hc : ts.length ≤ c) (hs : shortP ts) :
    Calls Tryz.prog 183 #[.slice A ts.length c, .pointer (some ⟨g, 0, none⟩)] w fun e w' => e = .returned (.bool (!polMay o ts)) ∧ Below w.heap.size w w' := by
 have C1 := Hd.mk (poly_May b0 o A c ts w h hc hs)
 have q0 := hk.one
 clear hk h hs hc
 go_enter Tryz.func183, Tryz.ntmps183
 go_wp2_with fail
 refine C1.out.mono ?_
 rintro e w4 ⟨rfl, hb⟩
 have HB := Hd.mk hb
 clear hb q0
 go_wp2_with fail
 go_ret
 exact ⟨rfl, HB.out⟩
theorem basisD_any (o : Int) (l : List (List TermD)) : (l.any fun p => !polMay o p) = !l.all (polMay o) := by
 induction l with
 | nil => rfl
 | cons p l ih => rw [List.any_cons, List.all_cons, ih, Bool.not_and]
theorem reduce_basis (b0 : Nat) (o : Int) (A : Option Addr) (c : Nat) (ps : List (List TermD)) (w : World) (h : RPols w b0 A ps) (hn : ps.length ≤ 1000) (hs : ∀ p ∈ ps, shortP p) :
    Calls Tryz.prog 104 #[.int .i64 o, .slice A ps.length c] w fun e w' => e = .returned (.bool (basisD o ps)) ∧ Below w.heap.size w w' := by
 obtain ⟨E, hE⟩ : ∃ E, basisD o ps = E := ⟨_, rfl⟩
 rw [hE]
 have HE := Hd.mk hE
 have H := Hd.mk h
 have HS := Hd.mk hs
 clear hE h hs
 go_enter Tryz.func104, Tryz.ntmps104
 go_upto_region 2 with (fail)
 refine wp_gen (fun W => Below w.heap.size w W ∧ Bk W w.heap.size 3 #[.int .i64 o]) ⟨(Below.refl _ _).alloc (Nat.le_refl _) _, Bk.new_ _ _ _⟩ ?_
 intro W1 H1
 have K1 := Hd.mk H1.out.2
 have HB1 := Hd.mk H1.out.1
 have q0 := K1.out.one
 have CM := Hd.mk (poly_May 0 o none 0 [] W1 (RPol.nil _ _ _) (Nat.le_refl _) ⟨by simp, fun s h => by cases h⟩)
 rw [List.length_nil] at CM
 clear H1
 cases hm : polMay o []
 case false =>
  rw [hm] at CM
  have HF : Hd (E = false) := ⟨by rw [← HE.out]; unfold basisD; rw [hm]; rfl⟩
  clear hm
  go_wp2_with fail
  refine CM.out.mono ?_
  rintro e w2 ⟨rfl, hb⟩
  have HB2 := Hd.mk (goes HB1.out hb)
  clear hb
  go_wp2_with fail
  go_ret
  exact ⟨retBool HF.out.symm, HB2.out⟩
 rw [hm] at CM
 by_cases hl : ps.length ≤ 24
 case neg =>
  have hl' : ¬ (ps.length : Int) ≤ 24 := by omega
  have HF : Hd (E = false) := ⟨by rw [← HE.out]; unfold basisD; rw [hm, decide_eq_false hl]; rfl⟩
  clear hm hl
  go_wp2_with fail
  refine CM.out.mono ?_
  rintro e w2 ⟨rfl, hb⟩
  have HB2 := Hd.mk (goes HB1.out hb)
  clear hb
  go_wp2_with fail
  go_ret
  exact ⟨retBool HF.out.symm, HB2.out⟩
 have hl' : (ps.length : Int) ≤ 24 := by omega
 have HF : Hd (E = !(ps.any fun p => !polMay o p)) := ⟨by rw [← HE.out, basisD_any]; unfold basisD; rw [hm, decide_eq_true hl]; simp⟩
 have CC := Hd.mk (fun W (hB : Below W1.heap.size W1 W) => polys_Contains 183 #[.pointer (some ⟨w.heap.size, 0, none⟩)] (enters_of Tryz.func183 (by kernel_rfl) rfl) b0 (fun p => !polMay o p) A c ps W (H.out.up (goes HB1.out hB)) hn
  (fun W' a pc p hB' hp hr hpc => basis_1 ((K1.out.up hB).up hB') hr hpc (HS.out p hp)))
 generalize (ps.any fun p => !polMay o p) = B at CC HF
 clear hm hl
 go_wp2_with fail
 refine CM.out.mono ?_
 rintro e w2 ⟨rfl, hb⟩
 have HB2 := Hd.mk (goes HB1.out hb)
 have CC2 := Hd.mk (CC.out w2 hb)
 clear hb CC CM
 go_wp2_with fail
 refine CC2.out.mono ?_
 rintro e w3 ⟨rfl, hb⟩
 have HB3 := Hd.mk (goes HB2.out hb)
 clear hb CC2
 go_wp2_with fail
 go_ret
 exact ⟨retBool HF.out.symm, HB3.out⟩
theorem reduce_divides (a b : MonD) (w : World) :
    Calls Tryz.prog 108 #[.agg #[.int .i64 a.x0, .int .i64 a.x1, .int .i64 a.x2, .int .i64 a.x3], .agg #[.int .i64 b.x0, .int .i64 b.x1, .int .i64 b.x2, .int .i64 b.x3]] w fun e w' => e = .returned (.bool (monDiv b a).1) ∧ Below w.heap.size w w' := by
 have CD := Hd.mk (mono_Div b a)
 obtain ⟨⟨is, q⟩, hD⟩ : ∃ X, monDiv b a = X := ⟨_, rfl⟩
 rw [hD] at CD ⊢
 dsimp only at CD ⊢
 clear hD
 go_enter Tryz.func108, Tryz.ntmps108
 go_upto_region 1 with (fail)
 refine wp_gen (fun W => Below w.heap.size w W ∧ Bk W w.heap.size 66 #[.int .i64 a.x0, .int .i64 a.x1, .int .i64 a.x2, .int .i64 a.x3] ∧ Bk W (w.heap.size + 1) 66 #[.int .i64 b.x0, .int .i64 b.x1, .int .i64 b.x2, .int .i64 b.x3]) ⟨((Below.refl _ _).alloc (Nat.le_refl _) _).alloc (by simp) _, (Bk.new_ _ _ _).al _, by have := Bk.new_ (w.alloc (.cells #[.int .i64 a.x0, .int .i64 a.x1, .int .i64 a.x2, .int .i64 a.x3] 66)) 66 #[.int .i64 b.x0, .int .i64 b.x1, .int .i64 b.x2, .int .i64 b.x3]; simpa using this⟩ ?_
 intro W1 H1
 have HB1 := Hd.mk H1.out.1
 obtain ⟨p0, p1, p2, p3⟩ := H1.out.2.1.four
 obtain ⟨q0, q1, q2, q3⟩ := H1.out.2.2.four
 generalize w.heap.size + 1 = g3 at q0 q1 q2 q3 ⊢
 clear H1
 go_wp2_with fail
 refine (CD.out _).mono ?_
 rintro e w2 ⟨rfl, hb⟩
 have HB2 := Hd.mk (goes HB1.out hb.lo)
 clear hb p0 p1 p2 p3 q0 q1 q2 q3
 go_wp2_with fail
 go_ret
 exact ⟨rfl, HB2.out.alloc HB2.out.size _⟩
theorem RPol.head {w : World} {b0 : Nat} {A : Option Addr} {p : List TermD} (h : RPol w b0 A p) (hp : p ≠ []) : ∃ ad : Addr, A = some ad ∧ ad.block < w.heap.size ∧ w.cell? ⟨ad.block, ad.off + 3, none⟩ = some (.int .i64 (hdM p).x0) ∧ w.cell? ⟨ad.block, ad.off + 3 + 1, none⟩ = some (.int .i64 (hdM p).x1) ∧
    w.cell? ⟨ad.block, ad.off + 3 + 2, none⟩ = some (.int .i64 (hdM p).x2) ∧ w.cell? ⟨ad.block, ad.off + 3 + 3, none⟩ = some (.int .i64 (hdM p).x3) := by
 cases p with
 | nil => exact absurd rfl hp
 | cons t p =>
   obtain ⟨ad, X1, x1, X2, x2, t', rfl, hab, hti, -, -, -, -, p3, p4, p5, p6⟩ := h.get (j := 0) (by simp)
   have e : t' = t := by have := hti.out; simpa using this.symm
   subst e
   rw [Nat.zero_mul, add_none] at p3 p4 p5 p6
   exact ⟨ad, rfl, hab, p3, p4, p5, p6⟩
theorem Reduced_1 {b0 g : Nat} {m : MonD} {A : Option Addr} {c : Nat} {p : List TermD} {w : World} (hk : Bk w g 66 #[.int .i64 m.x0, .int .i64 m.x1, .int .i64 m.x2, .int .i64 m.x3]) (h : RPol w b0 A p) (hp : p ≠ []) (hc : p.length ≤ c) :
    Calls Tryz.prog 107 #[.slice A p.length c, .pointer (some ⟨g, 0, none⟩)] w fun e w' => e = .returned (.bool (monDiv m (hdM p)).1) ∧ Below w.heap.size w w' := by
 obtain ⟨ad, rfl, -, p0, p1, p2, p3⟩ := h.head hp
 obtain ⟨q0, q1, q2, q3⟩ := hk.four
 have p0 := Wd.cell p0
 have p1 := Wd.cell p1
 have p2 := Wd.cell p2
 have p3 := Wd.cell p3
 have q0 := Wd.cell q0
 have q1 := Wd.cell q1
 have q2 := Wd.cell q2
 have q3 := Wd.cell q3
 have CD := Hd.mk (fun W => reduce_divides (hdM p) m W)
 obtain ⟨x, hx⟩ : ∃ x, hdM p = x := ⟨_, rfl⟩
 rw [hx] at CD p0 p1 p2 p3 ⊢
 generalize (monDiv m x).1 = B at CD ⊢
 have hn : (0 : Int) < p.length := by have := List.length_pos_iff.2 hp; omega
 clear h hk hx hp
 go_enter Tryz.func107, Tryz.ntmps107
 go_wp2_with fail
 refine wp_region_wd w (by kernel_rfl) (by kernel_rfl) (Below.refl _ _).drew ?_
 repeat (go_big_quiet_step ((go_at_call 108; exact Wd.call (CD.out _))))
 refine wd_nil fun nq => ?_
 go_wp2_with fail
 go_ret
 exact ⟨rfl, nq.lo⟩
theorem Reduced_2 {b0 g gf : Nat} {m : MonD} {A : Option Addr} {c : Nat} {p : List TermD} {w : World} (hk : Bk w g 66 #[.int .i64 m.x0, .int .i64 m.x1, .int .i64 m.x2, .int .i64 m.x3]) (hf : Bk w gf 159 #[.func (.func 107) #[] #[.pointer (some ⟨g, 0, none⟩)]]) (h : RPol w b0 A p) (hp : p ≠ []) (hc : p.length ≤ c) :
    Calls Tryz.prog 109 #[.slice A p.length c, .pointer (some ⟨gf, 0, none⟩), .pointer (some ⟨g, 0, none⟩)] w fun e w' => e = .returned (.bool ((monDiv m (hdM p)).1 && !decide (hdM p = m))) ∧ Below w.heap.size w w' := by
 have CR := Hd.mk (fun n : Wd w => Reduced_1 (w := n.w) (hk.up n.lo) (h.up n.lo) hp hc)
 obtain ⟨ad, rfl, -, p0, p1, p2, p3⟩ := h.head hp
 obtain ⟨q0, q1, q2, q3⟩ := hk.four
 have f0 := hf.one
 have p0 := Wd.cell p0
 have p1 := Wd.cell p1
 have p2 := Wd.cell p2
 have p3 := Wd.cell p3
 have q0 := Wd.cell q0
 have q1 := Wd.cell q1
 have q2 := Wd.cell q2
 have q3 := Wd.cell q3
 have f0 := Wd.cell f0
 obtain ⟨x, hx⟩ : ∃ x, hdM p = x := ⟨_, rfl⟩
 rw [hx] at CR p0 p1 p2 p3 ⊢
 have eqm := fun W => eq_mono x m W
 simp only [MonD.v] at eqm
 generalize (monDiv m x).1 = B at CR ⊢
 generalize decide (x = m) = D at eqm ⊢
 have hn : (0 : Int) < p.length := by have := List.length_pos_iff.2 hp; omega
 clear h hk hf hx hp
 cases B with
 | false =>
   go_enter Tryz.func109, Tryz.ntmps109
   go_wp2_with fail
   refine wp_region_wd w (by kernel_rfl) (by kernel_rfl) (Below.refl _ _).drew ?_
   repeat (go_big_quiet_step ((go_at_call 107; exact Wd.call (CR.out _))))
   refine wd_nil fun nq => ?_
   go_wp2_with fail
   go_ret
   exact ⟨rfl, nq.lo⟩
 | true =>
   go_enter Tryz.func109, Tryz.ntmps109
   go_wp2_with fail
   refine wp_region_wd w (by kernel_rfl) (by kernel_rfl) (Below.refl _ _).drew ?_
   repeat (go_big_quiet_step ((go_at_call 107; exact Wd.call (CR.out _))))
   refine wd_nil fun nq => ?_
   go_wp2_with fail
   go_ret
   exact ⟨retBool (by simp), nq.lo⟩
end Go.Proofs.YtgjkgkgieeoalaaGreat
namespace Go.Proofs.YtgjkgkgieeoalaaGreat
open Go.RowKit
open Go.Sort hiding Below
def Wl (w0 : World) : Type := {W : World // Blw w0.heap.size w0 W}
def Wl.w {w0 : World} (n : Wl w0) : World := n.1
theorem Wl.lo {w0 : World} (n : Wl w0) : Blw w0.heap.size w0 n.w := n.2
instance (w0 : World) : Nonempty (Wl w0) := ⟨⟨w0, .refl _ _⟩⟩
theorem Wl.cell {w0 : World} {p : Addr} {v : Value} (h : w0.cell? p = some v) : ∀ n : Wl w0, n.w.cell? p = some v := fun n => cellUp h n.lo
section
variable {P : Program} {w0 : World}
theorem Wl.call {f : FuncId} {args : Array Value} {v : Value} {n : Wl w0} (h : Calls P f args n.w fun e w' => e = .returned v ∧ Blw n.w.heap.size n.w w') : Calls P f args n.w fun e w' => e = .returned v ∧ ∃ m : Wl w0, w' = m.w :=
 h.mono fun _ w' ⟨he, hb⟩ => ⟨he, ⟨w', n.lo.trans (hb.mono n.lo.size)⟩, rfl⟩
theorem wp_region_wl {id : Nat} {Q : Exit → Act → World → Prop} {a : Act} {w : World} {l : List Oper} (w0 : World) (hm : P.follows .mixedOrders = true) (hB : Region.lexB .any l.toArray = true) (hC : Blw w0.heap.size w0 w.drew)
    (h : wpQuiet P l.toArray (fun W => ∃ n : Wl w0, W = n.w) (fun a' => ∀ w', (∃ n : Wl w0, w' = n.w) → Q .normal a' w') l a) : (Code.region id l.toArray true).wp P Q a w :=
 wp_region_quiet (C := fun W => ∃ n : Wl w0, W = n.w) hm hB ⟨⟨w.drew, hC⟩, rfl⟩ (by simpa using h)
theorem wl_nil {ops : Array Oper} {a : Act} {C : World → Prop} {Q : Exit → Act → World → Prop} (h : ∀ n : Wl w0, Q .normal a n.w) : wpQuiet P ops C (fun a' => ∀ w', (∃ n : Wl w0, w' = n.w) → Q .normal a' w') [] a :=
 wpQuiet_nil fun _ ⟨n, e⟩ => e ▸ h n
end
structure HdAt (w : World) (g : Nat) (x : SV) (m : MonD) : Prop where
 at_ : ∃ ad : Addr, x.1 = some ad ∧ ad.block < w.heap.size ∧ ad.block ≠ g ∧ w.cell? ⟨ad.block, ad.off + 3, none⟩ = some (.int .i64 m.x0) ∧ w.cell? ⟨ad.block, ad.off + 3 + 1, none⟩ = some (.int .i64 m.x1) ∧
  w.cell? ⟨ad.block, ad.off + 3 + 2, none⟩ = some (.int .i64 m.x2) ∧ w.cell? ⟨ad.block, ad.off + 3 + 3, none⟩ = some (.int .i64 m.x3)
 pos : 0 < x.2.1
 may : monMay m = true
theorem HdAt.grown {w w' : World} {g : Nat} {x : SV} {m : MonD} (h : HdAt w g x m) (hg : w.grownBy w' (some g)) : HdAt w' g x m := by
 obtain ⟨⟨ad, e, hb, hne, p0, p1, p2, p3⟩, hp, hm⟩ := h
 have key : ∀ (k : Nat), w'.cell? ⟨ad.block, k, none⟩ = w.cell? ⟨ad.block, k, none⟩ := fun k => World.cell?_of_block (hg.block _ hb (fun e => hne (by injection e)))
 exact ⟨⟨ad, e, Nat.lt_of_lt_of_le hb hg.size, hne, by rw [key]; exact p0, by rw [key]; exact p1, by rw [key]; exact p2, by rw [key]; exact p3⟩, hp, hm⟩
theorem Reduced_3 {gb g : Nat} {o : Int} {x y : SV} {m m' : MonD} {w : World} (hk : w.cell? ⟨gb, 0, none⟩ = some (.int .i64 o)) (hx : HdAt w g x m) (hy : HdAt w g y m') :
    Calls Tryz.prog 114 #[encS x, encS y, .pointer (some ⟨gb, 0, none⟩)] w fun e w' => e = .returned (.int .i64 (monCmp o m' m)) ∧ Blw w.heap.size w w' := by
 obtain ⟨⟨ad, e, -, -, p0, p1, p2, p3⟩, hp, -⟩ := hx
 obtain ⟨⟨bd, e', -, -, q0, q1, q2, q3⟩, hq, -⟩ := hy
 obtain ⟨xa, xn, xc⟩ := x
 obtain ⟨ya, yn, yc⟩ := y
 dsimp only at e e' hp hq
 subst e e'
 unfold encS
 dsimp only
 have k0 := Wl.cell hk
 have p0 := Wl.cell p0
 have p1 := Wl.cell p1
 have p2 := Wl.cell p2
 have p3 := Wl.cell p3
 have q0 := Wl.cell q0
 have q1 := Wl.cell q1
 have q2 := Wl.cell q2
 have q3 := Wl.cell q3
 have CC := Hd.mk (fun W => mono_Cmp o m' m W)
 generalize monCmp o m' m = B at CC ⊢
 have hn : (0 : Int) < xn := by omega
 have hn' : (0 : Int) < yn := by omega
 clear hk
 go_enter Tryz.func114, Tryz.ntmps114
 go_wp2_with fail
 refine wp_region_wl w (by kernel_rfl) (by kernel_rfl) (Blw.refl _ _).drew ?_
 repeat (go_big_quiet_step ((go_at_call 115; exact Wl.call (CC.out _))))
 refine wl_nil fun nq => ?_
 go_wp2_with fail
 go_ret
 exact ⟨rfl, nq.lo⟩
abbrev HS (w : World) (g : Nat) : Type := {y : SV × List TermD // HdAt w g y.1 (hdM y.2)}
def encH {w : World} {g : Nat} (y : HS w g) : Value := encS y.1.1
def cfH {w : World} {g : Nat} (o : Int) (x y : HS w g) : Int := monCmp o (hdM y.1.2) (hdM x.1.2)
theorem swoH {w : World} {g : Nat} {o : Int} (ho : oOk o) : SWO (ltOf (cfH (w := w) (g := g) o)) where
 irrefl x := decide_eq_false (by rw [show cfH o x x = 0 from (monCmp_zero ho x.2.may x.2.may).2 rfl]; omega)
 trans x y z h1 h2 := decide_eq_true (monCmp_lt ho z.2.may y.2.may x.2.may (of_decide_eq_true h2) (of_decide_eq_true h1))
 ntrans x y z h1 h2 := by
  have g1 : ¬ monCmp o (hdM y.1.2) (hdM x.1.2) < 0 := of_decide_eq_false h1
  have g2 : ¬ monCmp o (hdM z.1.2) (hdM y.1.2) < 0 := of_decide_eq_false h2
  refine decide_eq_false ?_
  show ¬ monCmp o (hdM z.1.2) (hdM x.1.2) < 0
  have e1 := monCmp_anti ho x.2.may y.2.may
  have e2 := monCmp_anti ho y.2.may z.2.may
  have e3 := monCmp_anti ho x.2.may z.2.may
  have := monCmp_le ho x.2.may y.2.may z.2.may (by omega) (by omega)
  omega
theorem sortW_grown {α : Type} [Inhabited α] {enc : α → Value} {w : World} {blk off n : Nat} {d : Array α} {os : Array Obj} : w.grownBy (sortWorld enc w blk off n d os) (some blk) := by
 refine ⟨rfl, rfl, rfl, ?_, fun k hk hne => ?_⟩
 ·simp [sortWorld, grow, putRow, mapBlock, Go.Sort.ahead]
 ·simp only [sortWorld, grow, putRow, mapBlock, Go.Sort.ahead]
  rw [Array.getElem?_append_left (by simpa using hk), Array.getElem?_modify, if_neg (fun e => hne (by rw [e]))]
theorem putRow_map {w W : World} {g : Nat} [Inhabited (HS w g)] (d : Array (HS w g)) : putRow (encH (w := w) (g := g)) W g 0 d = putRow encS W g 0 (d.map fun y => y.1.1) := by
 unfold putRow
 congr 1
 funext cs
 unfold putCells
 refine Array.ext_getElem? fun k => ?_
 rw [Array.getElem?_mapIdx, Array.getElem?_mapIdx]
 cases cs[k]? with
 | none => rfl
 | some u =>
   simp only [Option.map_some, Array.size_map]
   split
   ·rename_i h
    have hk : k - 0 < d.size := by omega
    rw [getElem!_pos d (k - 0) hk, getElem!_pos (d.map fun y => y.1.1) (k - 0) (by simpa using hk), Array.getElem_map]
    rfl
   ·rfl
theorem grow_below (W : World) (os : Array Obj) : Below W.heap.size W (grow W os) :=
 ⟨rfl, rfl, rfl, by show W.heap.size ≤ (W.heap ++ os).size; rw [Array.size_append]; omega, fun k hk => by show (W.heap ++ os)[k]? = _; rw [Array.getElem?_append_left hk]⟩
theorem ins_none (F : FuncId) (cb : Array Value) (A : Option Addr) (n c : Nat) (w : World) :
    Calls Tryz.prog 244 #[.slice A n c, .int .i64 0, .int .i64 0, .func (.func F) #[] cb] w fun e w' => e = .returned (.tuple #[]) ∧ w' = w := by
 go_enter Tryz.func244, Tryz.ntmps244
 go_wp2_with fail
 go_loopw [8] (fun v wr => v = .int .i64 1 ∧ wr = w) (fun _ _ => 0)
 case atStart => exact ⟨rfl, rfl⟩
 case round =>
  obtain ⟨rfl, rfl⟩ := hrel
  go_wp2_with fail
  go_end0
  exact ⟨rfl, rfl⟩
theorem sort_few (F : FuncId) (cb : Array Value) (A : Option Addr) (n c : Nat) (hn : n ≤ 12) (w : World) {Q : World → Prop}
    (hi : Calls Tryz.prog 244 #[.slice A n c, .int .i64 0, .int .i64 n, .func (.func F) #[] cb] w fun e w' => e = .returned (.tuple #[]) ∧ Q w') :
    Calls Tryz.prog 113 #[.slice A n c, .func (.func F) #[] cb] w fun e w' => e = .returned (.tuple #[]) ∧ Q w' := by
 have HI := Hd.mk hi
 clear hi
 have HP : ∀ L : Int, Hd (Calls Tryz.prog 190 #[.slice A n c, .int .i64 0, .int .i64 n, .int .i64 L, .func (.func F) #[] cb] w fun e w' => e = .returned (.tuple #[]) ∧ Q w') := fun L => ⟨by
  have n1 : (n : Int) ≤ 12 := by omega
  go_enter Tryz.func190, Tryz.ntmps190
  go_wp2_with fail
  go_loopw [1, 2] (fun v1 v2 wr => v1 = .int .i64 0 ∧ v2 = .int .i64 n ∧ wr = w) (fun _ _ _ => 0)
  case atStart => exact ⟨rfl, rfl, rfl⟩
  case round =>
   obtain ⟨rfl, rfl, rfl⟩ := hrel
   go_wp2_with fail
   refine HI.out.mono ?_
   rintro e w2 ⟨rfl, hq⟩
   have HQ := Hd.mk hq
   clear hq
   go_wp2_with fail
   refine bodyPost_ret (results_none rfl _ _ _) rfl ?_
   exact ⟨rfl, HQ.out⟩⟩
 have hl := Hd.mk (Tryz.bits_Len (n : Int) w (by omega) (by omega))
 have wr : IntKind.u64.wrap (n : Int) = n := by simp [IntKind.wrap, IntKind.bits, IntKind.signed]; omega
 go_enter Tryz.func113, Tryz.ntmps113
 go_wp2_with fail
 refine hl.out.mono ?_
 rintro e w' ⟨rfl, rfl⟩
 go_wp2_with fail
 refine (HP _).out.mono ?_
 rintro e w2 ⟨rfl, hq⟩
 have HQ := Hd.mk hq
 clear hq
 go_wp2_with fail
 go_end0
 exact ⟨rfl, HQ.out⟩
theorem RPol.hdAt {w : World} {b0 g : Nat} {a : Option Addr} {c : Nat} {p : List TermD} {o : Int} (h : RPol w b0 a p) (hp : Pz o p) (hne : p ≠ [] → ∀ ad, a = some ad → ad.block ≠ g) : HdAt w g (a, p.length, c) (hdM p) := by
 obtain ⟨ad, rfl, hb, p0, p1, p2, p3⟩ := h.head hp.ne
 exact ⟨⟨ad, rfl, hb, hne hp.ne ad rfl, p0, p1, p2, p3⟩, List.length_pos_iff.2 hp.ne, hp.may⟩
theorem sort_polys (o : Int) (ho : oOk o) (b0 base g gb cap : Nat) (S : List SV) (ps : List (List TermD)) (w : World) (h : RowP w b0 base g cap S ps) (hp : ∀ p ∈ ps, Pz o p) (hl : ps.length ≤ 12) (hgb : w.cell? ⟨gb, 0, none⟩ = some (.int .i64 o)) (hne : gb ≠ g) :
    Calls Tryz.prog 113 #[.slice (some ⟨g, 0, none⟩) ps.length cap, .func (.func 114) #[] #[.pointer (some ⟨gb, 0, none⟩)]] w fun e w' => e = .returned (.tuple #[]) ∧
     ∃ S' ps', ps'.Perm ps ∧ Srt o ps' ∧ RowP w' b0 base g cap S' ps' ∧ ∃ w1, w.grownBy w1 (some g) ∧ Below w1.heap.size w1 w' := by
 by_cases h0 : ps.length = 0
 ·obtain rfl : ps = [] := List.eq_nil_of_length_eq_zero h0
  refine sort_few _ _ _ 0 cap (by omega) w (Q := fun w' => ∃ S' ps', ps'.Perm ([] : List (List TermD)) ∧ Srt o ps' ∧ RowP w' b0 base g cap S' ps' ∧ ∃ w1, w.grownBy w1 (some g) ∧ Below w1.heap.size w1 w') ((ins_none _ _ _ 0 cap w).mono ?_)
  rintro e w' ⟨rfl, rfl⟩
  exact ⟨rfl, S, [], .refl _, .nil, h, w', World.grownBy.refl w' _, .refl _ _⟩
 have hS := h.len
 have hat : ∀ j (hj : j < ps.length), HdAt w g (S[j]'(by omega)) (hdM ps[j]) := fun j hj => by
  obtain ⟨a, c, h1, h2, h3, h4⟩ := h.each j _ (List.getElem?_eq_getElem hj)
  rw [List.getElem?_eq_getElem (by omega)] at h1
  injection h1 with h1
  rw [h1]
  exact h3.hdAt (hp _ (List.getElem_mem hj)) h4
 obtain ⟨D, hD1, hD2⟩ : ∃ D : List (HS w g), D.length = ps.length ∧ ∀ j (hj : j < D.length) (hj' : j < ps.length), D[j].1 = (S[j]'(by omega), ps[j]) :=
  ⟨List.ofFn fun i : Fin ps.length => ⟨(S[i.1]'(by omega), ps[i.1]), hat i.1 i.2⟩, by simp, fun j hj hj' => by simp⟩
 haveI : Inhabited (HS w g) := ⟨D[0]'(by omega)⟩
 have hR : Row1 (encH (w := w) (g := g)) w g 0 D.toArray := ⟨fun _ => rfl, fun j hj => by
  have hj' : j < D.length := by simpa using hj
  rw [Nat.zero_add]
  refine ⟨?_, h.row.froz j⟩
  rw [h.row.cell (List.getElem?_eq_getElem (show j < S.length by omega)), getElem!_pos _ j hj]
  have := hD2 j hj' (by omega)
  show _ = some (encS (D.toArray[j].1.1))
  rw [List.getElem_toArray, this], h.row.lt⟩
 have hcmp : CmpLays1 Tryz.prog 114 #[.pointer (some ⟨gb, 0, none⟩)] (encH (w := w) (g := g)) (cfH o) g 0 D.toArray.size w := fun m os dk _ x y => by
  have hg := sortW_grown (enc := encH (w := w) (g := g)) (w := w) (blk := g) (off := 0) (n := m) (d := dk) (os := os)
  have hc : (sortWorld (encH (w := w) (g := g)) w g 0 m dk os).cell? ⟨gb, 0, none⟩ = some (.int .i64 o) := by
   rw [← hgb]
   exact World.cell?_of_block (hg.block gb (World.block_lt_of_cell? w _ hgb) (fun e => hne (by injection e)))
  exact (Reduced_3 hc (x.2.grown hg) (y.2.grown hg)).mono fun e w' ⟨he, hb⟩ => ⟨he, hb.grows⟩
 have hi := Tryz.insertionSortCmpFunc_s (encH (w := w) (g := g)) (cfH o) 114 #[.pointer (some ⟨gb, 0, none⟩)] g 0 cap 0 ps.length D.toArray D.toArray w w (enters_of Tryz.func114 (by kernel_rfl) rfl) hcmp hR rfl (SW.start hR.hH) (Nat.zero_le _) (by simp; omega) (by simp; omega)
 rw [List.size_toArray, hD1] at hi
 refine sort_few _ _ _ _ cap hl w (Q := fun w' => ∃ S' ps', ps'.Perm ps ∧ Srt o ps' ∧ RowP w' b0 base g cap S' ps' ∧ ∃ w1, w.grownBy w1 (some g) ∧ Below w1.heap.size w1 w') (hi.mono ?_)
 rintro e w' ⟨rfl, m, os, rfl⟩
 refine ⟨rfl, ?_⟩
 have hso := insertionSort_holds (lt := ltOf (cfH (w := w) (g := g) o)) (swoH ho) D.toArray 0 ps.length (Nat.zero_le _) (by simp; omega)
 generalize insertionSort (ltOf (cfH (w := w) (g := g) o)) D.toArray 0 ps.length = E at hso ⊢
 obtain ⟨⟨e1, _, e3⟩, hsrt⟩ := hso
 have e1 : E.size = D.length := by simpa using e1
 have hperm : E.toList.Perm D := by
  have a1 : E.extract 0 ps.length = E := by rw [← hD1, ← e1]; simp
  have a2 : D.toArray.extract 0 ps.length = D.toArray := by rw [← hD1]; simp
  rw [a1, a2] at e3
  simpa using e3
 have hps : D.map (fun y => y.1.2) = ps := by
  refine List.ext_getElem (by rw [List.length_map, hD1]) fun j h1 h2 => ?_
  rw [List.getElem_map, hD2 j (by omega) h2]
 have hEl : E.toList.length = ps.length := by rw [hperm.length_eq, hD1]
 refine ⟨E.toList.map fun y => y.1.1, E.toList.map fun y => y.1.2, ?_, ?_, ?_, putRow encS (Go.Sort.ahead w m) g 0 (E.map fun y => y.1.1), put_grown _ _ _ _, by rw [sortWorld, putRow_map]; exact grow_below _ _⟩
 ·have := hperm.map fun y => y.1.2
  rwa [hps] at this
 ·unfold Srt
  rw [List.pairwise_map, List.pairwise_iff_getElem]
  intro i j hi' hj' hij
  have hj2 : j < E.size := by simpa using hj'
  have hi2 : i < E.size := by simpa using hi'
  have h4 := hsrt i j (Nat.zero_le _) hij (by omega)
  rw [getElem!_pos E j hj2, getElem!_pos E i hi2] at h4
  have h5 : ¬ monCmp o (hdM E[i].1.2) (hdM E[j].1.2) < 0 := of_decide_eq_false h4
  simp only [Array.getElem_toList]
  omega
 ·rw [sortWorld, putRow_map]
  refine RowP.up (w := putRow encS (Go.Sort.ahead w m) g 0 (E.map fun y => y.1.1)) ?_ (grow_below _ _)
  refine h.put m _ (fun j x hj => ?_) (by rw [List.length_map]; omega) (by rw [List.length_map, List.length_map]) fun j p hj => ?_
  ·rw [← Array.getElem?_toList, Array.toList_map]; exact hj
  ·rw [List.getElem?_map] at hj
   cases hy : E.toList[j]? with
   | none => rw [hy] at hj; cases hj
   | some y =>
     rw [hy] at hj
     injection hj with hj
     obtain ⟨i, hi', ei⟩ := List.getElem_of_mem (hperm.mem_iff.1 (List.mem_of_getElem? hy))
     have := hD2 i hi' (by omega)
     rw [ei] at this
     refine ⟨i, ?_, ?_⟩
     ·rw [List.getElem?_eq_getElem (by omega), ← hj]
      show some ps[i] = some y.1.2
      rw [this]
     ·rw [List.getElem?_map, hy, List.getElem?_eq_getElem (show i < S.length by omega)]
      show some y.1.1 = _
      rw [this]
end Go.Proofs.YtgjkgkgieeoalaaGreat
namespace Go.Proofs.YtgjkgkgieeoalaaGreat
theorem GoodR.lt {r : RatD} (h : GoodR r) : val r.num < 18446744073709551616 ^ 8 ∧ val r.den < 18446744073709551616 ^ 8 := by
 have h1 := h.fit
 unfold fitQ at h1
 rw [(qv_num h).1, sg_abs, (qv_num h).2] at h1
 exact ⟨limbs_len.1 h1.1, limbs_len.1 h1.2⟩
theorem good_one : GoodR (ofD 1) := ofD_good (by decide)
theorem mulD_one {r : RatD} (h : GoodR r) : mulD r (ofD 1) = (0, r) := by
 have v1 : val (ofD 1).num = 1 := by rw [val_ofD]; rfl
 have v2 : val (ofD 1).den = 1 := rfl
 obtain ⟨a1, a2, a3, _, _⟩ := mulD_small h good_one (by rw [v1, Nat.mul_one]; exact h.lt.1) (by rw [v2, Nat.mul_one]; exact h.lt.2)
 exact Prod.ext a1 (a2.inj h (by rw [a3, qv_ofD]; exact Rat.mul_one _))
theorem timesL_one : ∀ {p : List TermD}, GoodP p → timesL ⟨ofD 1, zeroM⟩ p = (0, p)
 | [], _ => rfl
 | s :: p, h => by
   rw [timesL_cons, mulD_one h.hd.c, monMul_zero h.hd.m, timesL_one h.tl]
   simp [addM_zero]
theorem nz_one : nz ⟨ofD 1, zeroM⟩ = true := nz_of good_one (by show qv (ofD 1) ≠ 0; rw [qv_ofD]; decide)
theorem invD_one : invD (ofD 1) = (0, ofD 1) := by decide +kernel
structure Mz (o : Int) (p : List TermD) : Prop where
 pz : Pz o p
 one : (hdT p).c = ofD 1
theorem Mz.monic {o : Int} {p : List TermD} (h : Mz o p) : polMonic o p = (0, p) := by
 obtain ⟨⟨hc, hne⟩, h1⟩ := h
 cases p with
 | nil => exact absurd rfl hne
 | cons t p =>
   have h1 : t.c = ofD 1 := h1
   unfold polMonic
   rw [hc.may, if_neg (by simp)]
   simp only
   rw [h1, invD_one, if_neg (by simp), polTimes_timesL hc ⟨good_one, monMay_zero⟩ nz_one]
   exact timesL_one hc.canon.good
theorem monic_ok {o : Int} {p : List TermD} (h : Pz o p) (h0 : (polMonic o p).1 = 0) : Mz o (polMonic o p).2 ∧ hdM (polMonic o p).2 = hdM p := by
 obtain ⟨hc, hne⟩ := h
 cases p with
 | nil => exact absurd rfl hne
 | cons t p =>
   have gt := hc.canon.good t (by simp)
   have tz := nz_len (hc.canon.nz t (by simp))
   have tq := hc.ne (t := t) (by simp)
   obtain ⟨i1, i2⟩ := invD_q gt.c tz
   have gi : GoodR (invD t.c).2 := by rw [i1]; exact ofQ_good i2
   have vi : qv (invD t.c).2 = (qv t.c)⁻¹ := by rw [i1]; exact qv_ofQ _
   have ine : qv (invD t.c).2 ≠ 0 := by
    rw [vi]
    intro h
    have := Rat.mul_inv_cancel _ tq
    rw [h, Rat.mul_zero] at this
    exact absurd this (by decide)
   have e : polMonic o (t :: p) = polTimes o (t :: p) ⟨(invD t.c).2, zeroM⟩ := by
    unfold polMonic
    rw [hc.may, if_neg (by simp)]
    simp only
    rw [if_neg (by rw [i1]; simp)]
   have zi : nz ⟨(invD t.c).2, zeroM⟩ = true := nz_of gi ine
   have gT : GoodT ⟨(invD t.c).2, zeroM⟩ := ⟨gi, monMay_zero⟩
   rw [e] at h0 ⊢
   obtain ⟨c1, _, _⟩ := polTimes_good hc gT zi h0
   rw [polTimes_timesL hc gT zi] at h0 c1 ⊢
   obtain ⟨a1, a2⟩ := timesL_good gT hc.canon.good h0
   rw [a1] at c1 ⊢
   have tk := a2 t (by simp)
   refine ⟨⟨⟨c1, by simp⟩, ?_⟩, ?_⟩
   ·show (mulT t ⟨(invD t.c).2, zeroM⟩).c = ofD 1
    refine tk.good.c.inj good_one ?_
    rw [tk.val, qv_ofD]
    show qv t.c * qv (invD t.c).2 = _
    rw [vi, Rat.mul_inv_cancel _ tq]; rfl
   ·exact mulT_zm t _
theorem monics_ok {o : Int} : ∀ {l : List (List TermD)}, (∀ p ∈ l, Pz o p) → (monicsD o l).1 = 0 → (∀ q ∈ (monicsD o l).2, Mz o q) ∧ (monicsD o l).2.map hdM = l.map hdM
 | [], _, _ => ⟨fun q h => (by cases h), rfl⟩
 | p :: l, h, h0 => by
   unfold monicsD at h0 ⊢
   by_cases h1 : (polMonic o p).1 = 0
   case neg => rw [if_pos (by simpa using h1)] at h0; exact absurd h0 h1
   rw [if_neg (by simpa using h1)] at h0 ⊢
   by_cases h2 : (monicsD o l).1 = 0
   case neg => rw [if_pos (by simpa using h2)] at h0; exact absurd h0 h2
   rw [if_neg (by simpa using h2)]
   obtain ⟨a1, a2⟩ := monic_ok (h p (by simp)) h1
   obtain ⟨b1, b2⟩ := monics_ok (fun q hq => h q (by simp [hq])) h2
   refine ⟨fun q hq => ?_, ?_⟩
   ·rcases List.mem_cons.1 hq with rfl | hq
    ·exact a1
    ·exact b1 q hq
   ·rw [List.map_cons, List.map_cons, a2, b2]
theorem monics_id {o : Int} : ∀ {l : List (List TermD)}, (∀ p ∈ l, Mz o p) → monicsD o l = (0, l)
 | [], _ => rfl
 | p :: l, h => by
   unfold monicsD
   rw [(h p (by simp)).monic, monics_id fun q hq => h q (by simp [hq])]
   simp
theorem basis_len {o : Int} {l : List (List TermD)} (h : ¬ basisD o l = false) : l.length ≤ 24 := by
 unfold basisD at h
 simp only [Bool.not_eq_false, Bool.and_eq_true, decide_eq_true_eq] at h
 exact h.1.2
theorem basis_of {o : Int} (ho : oOk o) {l : List (List TermD)} (h : ∀ p ∈ l, CP o p) (hl : l.length ≤ 24) : ¬ basisD o l = false := by
 unfold basisD
 rw [(CP.nil ho).may, decide_eq_true hl, List.all_eq_true.2 fun p hp => (h p hp).may]
 simp
structure Form (o : Int) (l : List (List TermD)) : Prop where
 mz : ∀ p ∈ l, Mz o p
 nd : Nd l
 rby : ∀ r ∈ l, Rby (l.map hdM) r
theorem heads_M {l l' : List (List TermD)} (e : l.map hdT = l'.map hdT) : l.map hdM = l'.map hdM := by
 have := congrArg (List.map TermD.m) e
 rw [List.map_map, List.map_map] at this
 exact this
theorem full_pz {o : Int} {l : List (List TermD)} (h : ∀ p ∈ l, CP o p) : ∀ p ∈ fullD l, Pz o p := fun p hp => by
 unfold fullD at hp
 obtain ⟨h1, h2⟩ := List.mem_filter.1 hp
 exact ⟨h p h1, fun e => by rw [e] at h2; simp at h2⟩
theorem red_form {o : Int} {l : List (List TermD)} (h : ∀ p ∈ l, CP o p) (h0 : (redD o l).1 = 0) : Form o (redD o l).2 ∧ (redD o l).2.length ≤ 24 ∧ (monicsD o (fullD l)).1 = 0 ∧ (redD o l).2.map hdT = (interD [] (monicsD o (fullD l)).2).map hdT := by
 unfold redD at h0 ⊢
 by_cases hb : basisD o l = false
 ·rw [if_pos hb] at h0; cases h0
 rw [if_neg hb] at h0 ⊢
 have hl := basis_len hb
 by_cases hm : (monicsD o (fullD l)).1 = 0
 case neg => rw [if_pos (by simpa using hm)] at h0; exact absurd h0 hm
 rw [if_neg (by simpa using hm)] at h0 ⊢
 obtain ⟨m1, m2⟩ := monics_ok (full_pz h) hm
 have hlen : (monicsD o (fullD l)).2.length ≤ 24 := by
  have := congrArg List.length m2
  rw [List.length_map, List.length_map] at this
  rw [this]
  exact Nat.le_trans (List.length_filter_le _ _) hl
 generalize hM : (monicsD o (fullD l)).2 = M at m1 hlen h0 ⊢
 obtain ⟨n1, n2⟩ := inter_nd (l := M) fun p hp => (m1 p hp).pz
 have hF := (inter_sub M []).length_le
 rw [List.nil_append] at hF
 generalize interD [] M = F at n1 n2 hF h0 ⊢
 have hR := rests_ok F [] (fun p hp => (m1 p (n2 p (by simpa using hp))).pz) (by simpa using n1) (fun r hr => by cases hr) h0
 rw [List.nil_append] at hR
 obtain ⟨r1, r2⟩ := hR
 generalize (restsD o [] F).2 = R at r1 r2
 have e1 := congrArg List.length r1
 rw [List.length_map, List.length_map] at e1
 refine ⟨⟨fun p hp => ⟨(r2 p hp).1, ?_⟩, n1.heads r1, fun r hr => ?_⟩, by omega, hm, r1⟩
 ·have h1 : hdT p ∈ F.map hdT := by rw [← r1]; exact List.mem_map.2 ⟨p, hp, rfl⟩
  obtain ⟨q, hq, e⟩ := List.mem_map.1 h1
  rw [← e]
  exact (m1 q (n2 q hq)).one
 ·rw [heads_M r1]; exact (r2 r hr).2
theorem Form.perm {o : Int} {l l' : List (List TermD)} (h : Form o l) (hp : l'.Perm l) : Form o l' := by
 refine ⟨fun p hm => h.mz p (hp.mem_iff.1 hm), ?_, fun r hr s hs x hx => h.rby r (hp.mem_iff.1 hr) s hs x ((hp.map hdM).mem_iff.1 hx)⟩
 exact (List.Perm.pairwise_iff (fun {x y} hxy => And.symm hxy) hp.symm).1 h.nd
theorem Form.red {o : Int} {l : List (List TermD)} (ho : oOk o) (h : Form o l) (hl : l.length ≤ 24) : redD o l = (0, l) := by
 have hf : fullD l = l := by
  unfold fullD
  rw [List.filter_eq_self]
  intro p hp
  have := (h.mz p hp).pz.ne
  cases p with
  | nil => exact absurd rfl this
  | cons t p => simp
 unfold redD
 rw [if_neg (basis_of ho (fun p hp => (h.mz p hp).pz.cp) hl), hf, monics_id h.mz, if_neg (by simp), inter_id l [] (by simpa using h.nd)]
 have := rests_id (o := o) l [] (by simpa using fun p hp => (h.mz p hp).pz) (by simpa using h.nd) (by simpa using h.rby) (by simpa using hl)
 simpa using this
theorem Form.uniq {o : Int} {l l' : List (List TermD)} (h : Form o l) (ho : oOk o) (hp : l'.Perm l) (hs : Srt o l) (hs' : Srt o l') : l' = l := by
 refine List.Perm.eq_of_pairwise (le := fun p q => 0 ≤ monCmp o (hdM p) (hdM q)) ?_ hs' hs hp
 intro a b ha hb h1 h2
 have ha := hp.mem_iff.1 ha
 have ma := (h.mz a ha).pz.may
 have mb := (h.mz b hb).pz.may
 have h3 := monCmp_anti ho ma mb
 have e := (monCmp_zero ho ma mb).1 (by omega)
 refine Classical.byContradiction fun hne => ?_
 have hd : dvd a b = false := by
  have hnd := h.nd
  obtain ⟨i, hi, rfl⟩ := List.getElem_of_mem ha
  obtain ⟨j, hj, rfl⟩ := List.getElem_of_mem hb
  have hij : i ≠ j := fun e => hne (by subst e; rfl)
  rcases Nat.lt_or_ge i j with hlt | hge
  ·exact (List.pairwise_iff_getElem.1 hnd i j hi hj hlt).1
  ·exact (List.pairwise_iff_getElem.1 hnd j i hj hi (by omega)).2
 unfold dvd at hd
 rw [e, dvd_self mb] at hd
 cases hd
def leadAt (o : Int) (l : List (List TermD)) (i : Nat) : Bool :=
 !decide ((l.getD i []).length = 0) && polMay o (l.getD i []) && sameR (hdT (l.getD i [])).c (ofD 1) && !(decide (0 < i) && decide (monCmp o (hdM (l.getD (i - 1) [])) (hdM (l.getD i [])) ≤ 0)) &&
  (List.range l.length).all fun k => decide (k = i) || decide ((l.getD k []).length = 0) || !dvd (l.getD k []) (l.getD i [])
def leadsD (o : Int) (l : List (List TermD)) : Bool := (List.range l.length).all (leadAt o l)
theorem Form.lead {o : Int} {l : List (List TermD)} (h : Form o l) (ho : oOk o) (hs : Srt o l) {i : Nat} (hi : i < l.length) : leadAt o l i = true := by
 have gd : ∀ {k : Nat} (hk : k < l.length), l.getD k [] = l[k] := fun hk => by rw [List.getD_eq_getElem?_getD, List.getElem?_eq_getElem hk]; rfl
 have hnd : ∀ {k j : Nat} (hk : k < l.length) (hj : j < l.length), k ≠ j → dvd l[k] l[j] = false := fun {k j} hk hj hkj => by
  rcases Nat.lt_or_ge k j with hlt | hge
  ·exact (List.pairwise_iff_getElem.1 h.nd k j hk hj hlt).1
  ·exact (List.pairwise_iff_getElem.1 h.nd j k hj hk (by omega)).2
 have hm := h.mz l[i] (List.getElem_mem hi)
 unfold leadAt
 rw [gd hi, hm.pz.cp.may, sameR_iff.2 hm.one]
 have h1 : decide (l[i].length = 0) = false := decide_eq_false fun e => hm.pz.ne (List.length_eq_zero_iff.1 e)
 have h2 : (decide (0 < i) && decide (monCmp o (hdM (l.getD (i - 1) [])) (hdM l[i]) ≤ 0)) = false := by
  rcases Nat.eq_zero_or_pos i with h0 | h0
  ·rw [decide_eq_false (by omega)]; rfl
  ·have hi1 : i - 1 < l.length := by omega
   rw [gd hi1]
   have h3 : 0 ≤ monCmp o (hdM l[i - 1]) (hdM l[i]) := List.pairwise_iff_getElem.1 hs (i - 1) i hi1 hi (by omega)
   have m1 := (h.mz l[i - 1] (List.getElem_mem hi1)).pz.may
   have h4 : monCmp o (hdM l[i - 1]) (hdM l[i]) ≠ 0 := fun e => by
    have e := (monCmp_zero ho m1 hm.pz.may).1 e
    have := hnd hi1 hi (by omega)
    unfold dvd at this
    rw [e, dvd_self hm.pz.may] at this
    cases this
   rw [decide_eq_false (show ¬ _ ≤ _ by omega), Bool.and_false]
 rw [h1, h2]
 simp only [Bool.not_false, Bool.true_and, Bool.and_true]
 rw [List.all_eq_true]
 intro k hk
 rw [List.mem_range] at hk
 by_cases e : k = i
 ·simp [e]
 ·rw [gd hk, hnd hk hi e]; simp
theorem reduce_is {o : Int} (ho : oOk o) {l R M : List (List TermD)} {f : Int} (hl : ∀ p ∈ l, CP o p) (hR : RedIs o l 0 R) (hM : RedIs o R f M) : f = 0 ∧ M = R ∧ leadsD o R = true ∧ R.length ≤ 24 ∧ ∀ p ∈ R, CP o p := by
 obtain ⟨e1, _, e2⟩ := hR
 obtain ⟨p1, s1⟩ := e2 rfl
 obtain ⟨F, l24, _⟩ := red_form hl e1.symm
 have FR := F.perm p1
 have lR : R.length ≤ 24 := by rw [p1.length_eq]; exact l24
 obtain ⟨f1, _, f2⟩ := hM
 have hr := FR.red ho lR
 rw [hr] at f1 f2
 obtain ⟨p2, s2⟩ := f2 f1
 refine ⟨f1, FR.uniq ho p2 s1 s2, ?_, lR, fun p hp => (FR.mz p hp).pz.cp⟩
 unfold leadsD
 rw [List.all_eq_true]
 intro i hi
 exact FR.lead ho s1 (List.mem_range.1 hi)
end Go.Proofs.YtgjkgkgieeoalaaGreat
