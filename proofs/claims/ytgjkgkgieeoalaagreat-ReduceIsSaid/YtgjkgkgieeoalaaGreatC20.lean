/- Parts of the proof, joined: each theorem says what it shows. -/
import Derived.Test.YtgjkgkgieeoalaaGreatC19
import Derived.Test.YtgjkgkgieeoalaaGreatC04
import Derived.Test.YtgjkgkgieeoalaaGreatC02
import Derived.WideKeyPair
import Derived.Maps.OwnSet
import Derived.Maps.RangeWalk
import Derived.Ground.SlsfProg
import Derived.Shelf.SlSortCmp.InsertionK
import Derived.Shelf.SlSortCmp.SiftDownK
import Derived.Shelf.SlSortCmp.HeapSortK
import Derived.Shelf.SlSortCmp.MedianK
import Derived.Shelf.SlSortCmp.PivotK
import Derived.Shelf.SlSortCmp.ReverseRangeK
import Derived.Shelf.SlSortCmp.PartialInsertionK
import Derived.Shelf.SlSortCmp.PartitionEqualK
import Derived.Shelf.SlSortCmp.PartitionK
import Derived.Shelf.SlSortCmp.PdqK
import Derived.Shelf.SlSortCmp.WholeK
set_option linter.unusedVariables false
set_option linter.unusedSimpArgs false
set_option maxHeartbeats 24000000
set_option maxRecDepth 100000
namespace Go.Proofs.YtgjkgkgieeoalaaGreat
open Go.RowKit
theorem Make_1 (b0 : Nat) (v : Value) (t : TermD) (w : World) (h : RTerm w b0 v t) (hs : t.c.short) :
    Calls Tryz.prog 235 #[v] w fun e w' => e = .returned (.bool (!right t)) ∧ Below w.heap.size w w' := by
 have C1 := Hd.mk (fun W (hB : Hd (Below w.heap.size w W)) => poly_right b0 v t W (h.up hB.out) hs)
 obtain ⟨A, c, B, d, rfl, h1, h2, h3, h4⟩ := h
 clear h3 h4
 go_enter Tryz.func235, Tryz.ntmps235
 go_wp2_with fail
 refine (C1.out _ ⟨(Below.refl _ _).alloc (Nat.le_refl _) _⟩).mono ?_
 rintro e w4 ⟨rfl, hb4⟩
 have HB := Hd.mk (((Below.refl w.heap.size w).alloc (Nat.le_refl _) (Obj.cells #[.bool t.c.neg, .slice A t.c.num.length c, .slice B t.c.den.length d, .int .i64 t.m.x0, .int .i64 t.m.x1, .int .i64 t.m.x2, .int .i64 t.m.x3] 68)).trans (hb4.mono (by simp)))
 clear hb4
 go_wp2_with fail
 go_ret
 exact ⟨rfl, HB.out⟩
def anyOdd (ts : List TermD) : Bool := ts.any fun t => !right t
theorem index_odd (b0 : Nat) (A : Option Addr) (c : Nat) (ts : List TermD) (w : World) (h : RPol w b0 A ts) (hn : ts.length ≤ c) (hs : shortP ts) :
    Calls Tryz.prog 280 #[.slice A ts.length c, .func (.func 235) #[] #[]] w fun e w' => ∃ i : Int, e = .returned (.int .i64 i) ∧ decide (0 ≤ i) = anyOdd ts ∧ Below w.heap.size w w' := by
 have H := Hd.mk h
 have HS := Hd.mk hs
 have hl := hs.1
 clear h hs
 go_enter Tryz.func280, Tryz.ntmps280
 go_wp2_with fail
 go_loopw [8] (fun v wr => ∃ i : Nat, v = .int .i64 i ∧ i ≤ ts.length ∧ Hd (anyOdd (ts.take i) = false) ∧ Hd (Below w.heap.size w wr)) (fun v _ => ts.length - (intOf v).toNat)
 case atStart => exact ⟨0, rfl, by omega, ⟨rfl⟩, ⟨.refl _ _⟩⟩
 case round =>
  obtain ⟨i, rfl, hi, ht, hb⟩ := hrel
  by_cases hlt : i < ts.length
  ·obtain ⟨ad, B1, c1, B2, c2, t, rfl, hab, hti, hrt, q0, q1, q2, q3, q4, q5, q6⟩ := (H.out.up hb.out).get hlt
   have i2 : (i : Int) < ts.length := by omega
   have i3 : (0 : Int) ≤ i := by omega
   have hst := HS.out.2 t (List.mem_of_getElem? hti.out)
   have CB := Hd.mk (Make_1 b0 _ t wr hrt.out hst)
   have hsn : Hd (anyOdd (ts.take (i + 1)) = (anyOdd (ts.take i) || !right t)) := ⟨by
    rw [List.take_add_one, hti.out, anyOdd, List.any_append]; simp [anyOdd]⟩
   clear hst hrt
   cases h8 : right t
   ·rw [h8] at CB hsn
    clear h8
    go_wp2_with fail
    refine CB.out.mono ?_
    rintro e w' ⟨rfl, hb2⟩
    have HB := Hd.mk (hb.out.trans (hb2.mono hb.out.size))
    clear hb2 q0 q1 q2 q3 q4 q5 q6
    go_wp2_with fail
    go_ret
    refine ⟨_, rfl, ?_, HB.out⟩
    have h1 := hsn.out
    rw [Bool.not_false, Bool.or_true] at h1
    rw [decide_eq_true (by omega : (0 : Int) ≤ i)]
    conv => rhs; rw [← List.take_append_drop (i + 1) ts]
    rw [anyOdd, List.any_append, show (List.take (i + 1) ts).any (fun t => !right t) = true from h1]; rfl
   ·rw [h8] at CB hsn
    clear h8
    go_wp2_with fail
    refine CB.out.mono ?_
    rintro e w' ⟨rfl, hb2⟩
    have HB := Hd.mk (hb.out.trans (hb2.mono hb.out.size))
    clear hb2 q0 q1 q2 q3 q4 q5 q6
    go_wp2_with fail
    go_roundw
    case measure => first | (simp [intOf]; done) | (simp [intOf]; omega)
    case rel => exact ⟨i + 1, by go_num, by omega, ⟨by rw [hsn.out, ht.out]; rfl⟩, HB⟩
  ·have hie : i = ts.length := by omega
   subst hie
   go_wp2_with fail
   go_ret
   refine ⟨_, rfl, ?_, hb.out⟩
   have := ht.out
   rw [List.take_length] at this
   rw [this]; rfl
theorem contains_odd (b0 : Nat) (A : Option Addr) (c : Nat) (ts : List TermD) (w : World) (h : RPol w b0 A ts) (hn : ts.length ≤ c) (hs : shortP ts) :
    Calls Tryz.prog 236 #[.slice A ts.length c, .func (.func 235) #[] #[]] w fun e w' => e = .returned (.bool (anyOdd ts)) ∧ Below w.heap.size w w' := by
 have hi := Hd.mk (index_odd b0 A c ts w h hn hs)
 clear h hs
 go_enter Tryz.func236, Tryz.ntmps236
 go_wp2_with fail
 refine hi.out.mono ?_
 rintro e w' ⟨i, rfl, hib, hb⟩
 have HIB := Hd.mk hib
 have HB := Hd.mk hb
 clear hib hb
 go_wp2_with fail
 go_ret
 exact ⟨retBool HIB.out, HB.out⟩
theorem Make_2 (g : Nat) (order : Int) (s t : TermD) (A B A' B' : Option Addr) (c d c' d' : Nat) (w : World) (hg : w.cell? ⟨g, 0, none⟩ = some (.int .i64 order)) :
    Calls Tryz.prog 239 #[.agg #[.bool s.c.neg, .slice A s.c.num.length c, .slice B s.c.den.length d, .int .i64 s.m.x0, .int .i64 s.m.x1, .int .i64 s.m.x2, .int .i64 s.m.x3], .agg #[.bool t.c.neg, .slice A' t.c.num.length c', .slice B' t.c.den.length d', .int .i64 t.m.x0, .int .i64 t.m.x1, .int .i64 t.m.x2, .int .i64 t.m.x3], .pointer (some ⟨g, 0, none⟩)] w fun e w' => e = .returned (.int .i64 (monCmp order t.m s.m)) ∧ Blw w.heap.size w w' := by
 have C1 := Hd.mk (fun W => mono_Cmp order t.m s.m W)
 have hg2 := cell_up (cell_up hg ((Below.refl w.heap.size w).alloc (Nat.le_refl _) (Obj.cells #[.bool s.c.neg, .slice A s.c.num.length c, .slice B s.c.den.length d, .int .i64 s.m.x0, .int .i64 s.m.x1, .int .i64 s.m.x2, .int .i64 s.m.x3] 68))) ((Below.refl _ _).alloc (Nat.le_refl _) (Obj.cells #[.bool t.c.neg, .slice A' t.c.num.length c', .slice B' t.c.den.length d', .int .i64 t.m.x0, .int .i64 t.m.x1, .int .i64 t.m.x2, .int .i64 t.m.x3] 68))
 go_enter Tryz.func239, Tryz.ntmps239
 go_wp2_with fail
 refine (C1.out _).mono ?_
 rintro e w4 ⟨rfl, hb4⟩
 have HB := Hd.mk ((((Blw.refl w.heap.size w).alloc (Nat.le_refl _) (Obj.cells #[.bool s.c.neg, .slice A s.c.num.length c, .slice B s.c.den.length d, .int .i64 s.m.x0, .int .i64 s.m.x1, .int .i64 s.m.x2, .int .i64 s.m.x3] 68)).alloc (by simp) (Obj.cells #[.bool t.c.neg, .slice A' t.c.num.length c', .slice B' t.c.den.length d', .int .i64 t.m.x0, .int .i64 t.m.x1, .int .i64 t.m.x2, .int .i64 t.m.x3] 68)).trans (hb4.mono (by simp; omega)))
 clear hb4
 go_wp2_with fail
 go_ret
 exact ⟨rfl, HB.out⟩
end Go.Proofs.YtgjkgkgieeoalaaGreat
namespace Go.Proofs.YtgjkgkgieeoalaaGreat
def insD (o : Int) (t : TermD) : List TermD → List TermD
 | [] => [t]
 | p :: r => if monCmp o p.m t.m < 0 then t :: p :: r else p :: insD o t r
def hasM (al : List TermD) (m : MonD) : Bool := al.any fun p => decide (p.m = m)
def getM (al : List TermD) (m : MonD) : RatD := ((al.find? fun p => decide (p.m = m)).map (·.c)).getD zeroD
def setM (al : List TermD) (m : MonD) (c : RatD) : List TermD := al.map fun p => if p.m = m then ⟨c, m⟩ else p
def putD (o : Int) (al : List TermD) (t : TermD) : Int × List TermD :=
 if hasM al t.m = true then (if (addD (getM al t.m) t.c).1 ≠ 0 then ((addD (getM al t.m) t.c).1, []) else (0, setM al t.m (addD (getM al t.m) t.c).2)) else (0, insD o t al)
def putAll (o : Int) : List TermD → List TermD → Int × List TermD
 | al, [] => (0, al)
 | al, t :: ts => if (putD o al t).1 ≠ 0 then ((putD o al t).1, []) else putAll o (putD o al t).2 ts
def nz (t : TermD) : Bool := !decide (t.c.num.length = 0)
def polMake (o : Int) (ts : List TermD) : Int × List TermD :=
 if (ordered o && !anyOdd ts) = false then (1, []) else if (putAll o [] ts).1 ≠ 0 then ((putAll o [] ts).1, []) else if 60 < ((putAll o [] ts).2.filter nz).length then (90, []) else (0, (putAll o [] ts).2.filter nz)
def Fall (o : Int) (al : List TermD) : Prop := al.Pairwise fun p q => 0 < monCmp o p.m q.m
def GoodM (al : List TermD) : Prop := ∀ t ∈ al, monMay t.m = true
structure Sta (o : Int) (al : List TermD) : Prop where
 ord : oOk o
 good : GoodM al
 fall : Fall o al
theorem ordered_ok {o : Int} : ordered o = true ↔ oOk o := by unfold ordered oOk; simp
theorem insD_perm (o : Int) (t : TermD) : ∀ al, (insD o t al).Perm (t :: al)
 | [] => .refl _
 | p :: r => by
   unfold insD
   split
   ·exact .refl _
   ·exact ((insD_perm o t r).cons p).trans (.swap _ _ _)
theorem mem_insD {o : Int} {s t : TermD} {al : List TermD} : s ∈ insD o t al ↔ s = t ∨ s ∈ al := by
 rw [(insD_perm o t al).mem_iff, List.mem_cons]
theorem Sta.ins {o : Int} {al : List TermD} (h : Sta o al) {t : TermD} (ht : monMay t.m = true) (hn : ∀ p ∈ al, p.m ≠ t.m) : Sta o (insD o t al) := by
 refine ⟨h.ord, fun s hs => ?_, ?_⟩
 ·rcases mem_insD.1 hs with rfl | hs
  ·exact ht
  ·exact h.good s hs
 ·obtain ⟨ho, hg, hf⟩ := h
  induction al with
  | nil => exact List.pairwise_singleton _ _
  | cons p r ih =>
    obtain ⟨h1, h2⟩ := List.pairwise_cons.1 hf
    have hp := hg p (by simp)
    unfold insD
    split
    ·rename_i hlt
     refine List.pairwise_cons.2 ⟨fun q hq => ?_, hf⟩
     have h3 : 0 < monCmp o t.m p.m := by have := monCmp_anti ho hp ht; omega
     rcases List.mem_cons.1 hq with rfl | hq
     ·exact h3
     ·exact monCmp_gt ho ht hp (hg q (by simp [hq])) h3 (h1 q hq)
    ·rename_i hlt
     refine List.pairwise_cons.2 ⟨fun q hq => ?_, ih (fun s hs => hn s (by simp [hs])) (fun s hs => hg s (by simp [hs])) h2⟩
     rcases mem_insD.1 hq with rfl | hq
     ·have := (not_congr (monCmp_zero ho hp ht)).2 (hn p (by simp))
      omega
     ·exact h1 q hq
theorem hasM_iff {al : List TermD} {m : MonD} : hasM al m = true ↔ ∃ p ∈ al, p.m = m := by unfold hasM; simp
theorem hasM_not {al : List TermD} {m : MonD} (h : hasM al m = false) : ∀ p ∈ al, p.m ≠ m := fun p hp e => by
 have := hasM_iff.2 ⟨p, hp, e⟩
 rw [h] at this; cases this
theorem getM_of {al : List TermD} {m : MonD} (h : hasM al m = true) : ∃ p ∈ al, p.m = m ∧ getM al m = p.c := by
 unfold getM
 cases hf : al.find? fun p => decide (p.m = m) with
 | none =>
   obtain ⟨p, hp, e⟩ := hasM_iff.1 h
   have := List.find?_eq_none.1 hf p hp
   simp [e] at this
 | some p => exact ⟨p, List.mem_of_find?_eq_some hf, by simpa using List.find?_some hf, rfl⟩
theorem setM_keys (al : List TermD) (m : MonD) (c : RatD) : (setM al m c).map (·.m) = al.map (·.m) := by
 unfold setM
 rw [List.map_map]
 refine List.map_congr_left fun p _ => ?_
 simp only [Function.comp]
 split
 ·rename_i h; exact h.symm
 ·rfl
theorem fall_keys {o : Int} {al bl : List TermD} (h : al.map (·.m) = bl.map (·.m)) (hf : Fall o al) : Fall o bl := by
 unfold Fall at *
 have h1 : (al.map (·.m)).Pairwise fun a b => 0 < monCmp o a b := List.pairwise_map.2 hf
 rw [h] at h1
 exact List.pairwise_map.1 h1
theorem good_keys {al bl : List TermD} (h : al.map (·.m) = bl.map (·.m)) (hg : GoodM al) : GoodM bl := fun t ht => by
 have : t.m ∈ al.map (·.m) := by rw [h]; exact List.mem_map.2 ⟨t, ht, rfl⟩
 obtain ⟨s, hs, e⟩ := List.mem_map.1 this
 rw [← e]; exact hg s hs
theorem Sta.set {o : Int} {al : List TermD} (h : Sta o al) (m : MonD) (c : RatD) : Sta o (setM al m c) :=
 ⟨h.ord, good_keys (setM_keys al m c).symm h.good, fall_keys (setM_keys al m c).symm h.fall⟩
theorem mem_setM {al : List TermD} {m : MonD} {c : RatD} (hh : hasM al m = true) {s : TermD} : s ∈ setM al m c ↔ s = ⟨c, m⟩ ∨ (s ∈ al ∧ s.m ≠ m) := by
 unfold setM
 rw [List.mem_map]
 constructor
 ·rintro ⟨p, hp, rfl⟩
  split
  ·exact .inl rfl
  ·rename_i h; exact .inr ⟨hp, h⟩
 ·rintro (rfl | ⟨hs, hm⟩)
  ·obtain ⟨p, hp, e⟩ := hasM_iff.1 hh
   exact ⟨p, hp, by rw [if_pos e]⟩
  ·exact ⟨s, hs, by rw [if_neg hm]⟩
theorem Sta.nil {o : Int} (h : oOk o) : Sta o [] := ⟨h, (fun _ h => by cases h), List.Pairwise.nil⟩
theorem Sta.inj {o : Int} {al : List TermD} (h : Sta o al) {s t : TermD} (hs : s ∈ al) (ht : t ∈ al) (e : s.m = t.m) : s = t := by
 obtain ⟨ho, hg, hf⟩ := h
 induction al with
 | nil => cases hs
 | cons p r ih =>
   obtain ⟨h1, h2⟩ := List.pairwise_cons.1 hf
   have key : ∀ q ∈ r, q.m ≠ p.m := fun q hq e => by
    have := h1 q hq
    rw [(monCmp_zero ho (hg p (by simp)) (hg q (by simp [hq]))).2 e.symm] at this
    omega
   rcases List.mem_cons.1 hs with es | hs'
   ·rcases List.mem_cons.1 ht with et | ht'
    ·rw [es, et]
    ·exact absurd (by rw [← e, es]) (key _ ht')
   ·rcases List.mem_cons.1 ht with et | ht'
    ·exact absurd (by rw [e, et]) (key _ hs')
    ·exact ih hs' ht' (fun q hq => hg q (by simp [hq])) h2
theorem Sta.putD {o : Int} {al : List TermD} (h : Sta o al) {t : TermD} (ht : monMay t.m = true) (he : (putD o al t).1 = 0) : Sta o (putD o al t).2 := by
 revert he
 unfold Go.Proofs.YtgjkgkgieeoalaaGreat.putD
 by_cases hh : hasM al t.m = true
 ·rw [if_pos hh]
  by_cases h0 : (addD (getM al t.m) t.c).1 ≠ 0
  ·rw [if_pos h0]; intro he; exact absurd he h0
  ·rw [if_neg h0]; intro _; exact h.set _ _
 ·rw [if_neg hh]; intro _; exact h.ins ht (hasM_not (by simpa using hh))
theorem fall_eq {o : Int} : ∀ {l m : List TermD}, oOk o → GoodM l → Fall o l → Fall o m → l.Perm m → l = m
 | [], m, _, _, _, _, hp => (List.nil_perm.1 hp).symm
 | x :: l, [], _, _, _, _, hp => by have := hp.length_eq; simp at this
 | x :: l, y :: m, ho, hg, h1, h2, hp => by
   obtain ⟨a1, a2⟩ := List.pairwise_cons.1 h1
   obtain ⟨b1, b2⟩ := List.pairwise_cons.1 h2
   have hxm : x ∈ y :: m := hp.mem_iff.1 (by simp)
   have hym : y ∈ x :: l := hp.mem_iff.2 (by simp)
   have hgx := hg x (by simp)
   have hgy := hg y hym
   have e : x = y := by
    rcases List.mem_cons.1 hxm with h | h
    ·exact h
    ·rcases List.mem_cons.1 hym with h' | h'
     ·exact h'.symm
     ·have c1 := b1 x h
      have c2 := a1 y h'
      have := monCmp_anti ho hgx hgy
      omega
   subst e
   rw [fall_eq ho (fun t ht => hg t (by simp [ht])) a2 b2 (List.Perm.cons_inv hp)]
theorem Fall.filter {o : Int} {l : List TermD} (h : Fall o l) (p : TermD → Bool) : Fall o (l.filter p) := List.Pairwise.filter p h
theorem insD_len (o : Int) (t : TermD) (al : List TermD) : (insD o t al).length = al.length + 1 := (insD_perm o t al).length_eq
theorem putAll_le (o : Int) : ∀ (ts al bl : List TermD), putAll o al ts = (0, bl) → bl.length ≤ al.length + ts.length
 | [], al, bl, h => by
   unfold putAll at h
   injection h with _ h
   rw [h]; simp
 | t :: ts, al, bl, h => by
   unfold putAll at h
   by_cases h0 : (putD o al t).1 ≠ 0
   ·rw [if_pos h0] at h
    injection h with h _
    exact absurd h h0
   ·rw [if_neg h0] at h
    have h1 := putAll_le o ts _ bl h
    have h2 : (putD o al t).2.length ≤ al.length + 1 := by
     unfold putD
     split
     ·split
      ·simp
      ·simp [setM]
     ·rw [insD_len]; exact Nat.le_refl _
    rw [List.length_cons]
    omega
theorem putAll_len {o : Int} {ts al : List TermD} (h : putAll o [] ts = (0, al)) : al.length ≤ ts.length := by
 have := putAll_le o ts [] al h
 simpa using this
end Go.Proofs.YtgjkgkgieeoalaaGreat
namespace Go.Proofs.YtgjkgkgieeoalaaGreat
open Go.RowKit Go.Maps Go.WideMaps
theorem Tryz.arK : ArrKey Tryz.prog 66 3 4 := ⟨Tryz.underlying66, by kernel_rfl, by kernel_rfl, by kernel_rfl⟩
theorem Tryz.szs : ∃ m, Tryz.prog.types.size = m + 1 := ⟨Tryz.prog.types.size - 1, by kernel_rfl⟩
theorem Tryz.keyed : Keyed Tryz.prog 66 := Keyed.of_law Tryz.arK.law
theorem Tryz.mapT : Tryz.prog.underlying 261 = some (.map 66 64) := by kernel_rfl
theorem Tryz.zRat (w : World) : (zeroValue 64).run Tryz.prog w = .ok (.agg #[.bool false, .slice none 0 0, .slice none 0 0]) w := by kernel_rfl
theorem keyOf_four {P : Program} {k e : TypeId} {q : IntKind} (A : ArrKey P k e 4) (he : P.underlying e = some (.int q)) (hsz : ∃ m, P.types.size = m + 1) {a b c d : Int} (wa : (Lit.int q a).wf = true) (wb : (Lit.int q b).wf = true) (wc : (Lit.int q c).wf = true) (wd : (Lit.int q d).wf = true) :
    keyOf P k (.agg #[.int q a, .int q b, .int q c, .int q d]) = some (.string (keyBytes [.int q a, .int q b, .int q c, .int q d])) := by
 have hkt := A.keyType hsz
 obtain ⟨m, hm⟩ := hsz
 unfold keyOf
 simp only [A.hu]
 rw [if_pos (by simp [hkt, Value.formed, A.hu, A.size]), hm]
 unfold Program.keyLits
 simp only [A.hu, Value.cells]
 rw [if_pos (by rw [A.size]; rfl), show List.range 4 = [0, 1, 2, 3] from rfl, List.mapM_cons, List.mapM_cons, List.mapM_cons, List.mapM_cons, List.mapM_nil]
 simp [A.one, Program.keyLits, he, wa, wb, wc, wd]
def mv (m : MonD) : Value := .agg #[.int .i64 m.x0, .int .i64 m.x1, .int .i64 m.x2, .int .i64 m.x3]
def ml (m : MonD) : Lit := .string (keyBytes [.int .i64 m.x0, .int .i64 m.x1, .int .i64 m.x2, .int .i64 m.x3])
theorem wf_small {x : Int} (h0 : 0 ≤ x) (h1 : x ≤ 40) : (Lit.int .i64 x).wf = true := by
 simp [Lit.wf]
 constructor
 ·show (-9223372036854775808 : Int) ≤ x; omega
 ·omega
theorem keyOf_mv {m : MonD} (h : monMay m = true) : keyOf Tryz.prog 66 (mv m) = some (ml m) := by
 obtain ⟨h0, h1, h2, h3⟩ := monMay_of h
 exact keyOf_four Tryz.arK Tryz.underlying3 Tryz.szs (wf_small h0.1 h0.2) (wf_small h1.1 h1.2) (wf_small h2.1 h2.2) (wf_small h3.1 h3.2)
theorem mv_inj {a b : MonD} (h : mv a = mv b) : a = b := by
 cases a; cases b; simpa [mv] using h
theorem ml_inj {a b : MonD} (ha : monMay a = true) (hb : monMay b = true) (h : ml a = ml b) : a = b := by
 have h1 := keyOf_mv ha
 rw [h] at h1
 exact mv_inj (Tryz.keyed.inj h1 (keyOf_mv hb))
theorem ml_key {a : MonD} (ha : monMay a = true) : WideAt.IsKeyLit (ml a) := Tryz.keyed.key (keyOf_mv ha)
def elR (v : Value) : Option (DataW Value × List MemPlace) := some (.held v, [])
structure MapIs (w : World) (b0 g n : Nat) (al : List TermD) (D : DataW Value) : Prop where
 own : w.ownsMap Tryz.prog 66 elR g n D
 good : GoodM al
 has : ∀ kl, Maps.has D kl = true ↔ ∃ t ∈ al, ml t.m = kl
 val : ∀ t ∈ al, ∃ v, (∀ zd, D.atKey (ml t.m) zd = .held v) ∧ RRat w b0 v t.c
section
variable {w w' : World} {b0 g n : Nat} {al bl : List TermD} {D : DataW Value}
theorem MapIs.up (h : MapIs w b0 g n al D) (hb : Below w.heap.size w w') : MapIs w' b0 g n al D :=
 ⟨h.own.kept ⟨hb.os, hb.tape, hb.output, hb.size, fun k hk _ => hb.block k hk⟩ (row := none) (by simp), h.good, h.has, fun t ht => let ⟨v, h1, h2⟩ := h.val t ht; ⟨v, h1, h2.up hb⟩⟩
theorem MapIs.made (w : World) (b0 : Nat) : MapIs (w.alloc (.map #[] 0)) b0 w.heap.size 0 [] (.map []) :=
 ⟨World.ownsMap_made w _ _ _, (fun _ h => by cases h), fun kl => by simp [Maps.has], fun _ h => by cases h⟩
theorem MapIs.hasM (h : MapIs w b0 g n al D) {m : MonD} (hm : monMay m = true) : Maps.has D (ml m) = Go.Proofs.YtgjkgkgieeoalaaGreat.hasM al m := by
 rw [Bool.eq_iff_iff, h.has, hasM_iff]
 exact ⟨fun ⟨t, ht, e⟩ => ⟨t, ht, ml_inj (h.good t ht) hm e⟩, fun ⟨t, ht, e⟩ => ⟨t, ht, by rw [e]⟩⟩
theorem MapIs.noRow (h : MapIs w b0 g n al D) (cs : Array Value) : ¬ Bk w g 112 cs := fun hb => by
 obtain ⟨es, clock, hg, _⟩ := h.own
 unfold Bk at hb
 rw [hg] at hb
 cases hb
theorem RRow.grown' {A : Option Addr} {l : List Int} {row : Option Nat} (h : RRow w b0 A l) (hg : w.grownBy w' row) (hr : ∀ g, row = some g → b0 ≤ g ∧ ∀ cs, ¬ Bk w g 112 cs) : RRow w' b0 A l := by
 have key : 0 < l.length → ∀ ad, A = some ad → some ad.block ≠ row := fun h0 ad e er => by
  obtain ⟨h1, h2⟩ := hr _ er.symm
  rcases h.2.2 h0 ad e with h4 | ⟨cs', h4⟩
  ·omega
  ·exact h2 cs' h4
 refine ⟨?_, h.2.1, fun h0 ad e => (h.2.2 h0 ad e).imp id fun ⟨cs, hk⟩ => ⟨cs, hk.grown hg (key h0 ad e)⟩⟩
 refine ⟨h.1.1, fun h0 => ?_⟩
 obtain ⟨ad, e, hb, hc⟩ := h.1.2 h0
 refine ⟨ad, e, Nat.lt_of_lt_of_le hb hg.size, fun j u hu => ?_⟩
 rw [← hc j u hu]
 exact World.cell?_of_block (hg.block _ (by rw [add_block]; exact hb) (by rw [add_block]; exact key h0 ad e))
theorem RRat.grown' {v : Value} {r : RatD} {row : Option Nat} (h : RRat w b0 v r) (hg : w.grownBy w' row) (hr : ∀ g, row = some g → b0 ≤ g ∧ ∀ cs, ¬ Bk w g 112 cs) : RRat w' b0 v r :=
 let ⟨A, c, B, d, e, h1, h2, h3, h4⟩ := h; ⟨A, c, B, d, e, h1, h2, h3.grown' hg hr, h4.grown' hg hr⟩
theorem MapIs.set (h : MapIs w b0 g n al D) {g' : Nat} {t : TypeId} {cs : Array Value} (hk : Bk w g' t cs) (ht : t ≠ 112) (hb : b0 ≤ g') {p : Addr} (hp : p.block = g') (u : Value) : MapIs (w.setCell p u) b0 g n al D := by
 subst hp
 refine ⟨h.own.kept (set_grown w p u) ?_, h.good, h.has, fun t' ht' => let ⟨v, h1, h2⟩ := h.val t' ht'; ⟨v, h1, h2.grown (set_grown w p u) fun g' e => by injection e with e; subst e; exact ⟨hb, t, cs, hk, ht⟩⟩⟩
 intro e
 injection e with e
 obtain ⟨es, clock, hg, _⟩ := h.own
 unfold Bk at hk
 rw [← e, hg] at hk
 cases hk
theorem MapIs.put (h : MapIs w b0 g n al D) (hb0 : b0 ≤ g) {t : TermD} {v : Value} (hm : monMay t.m = true) (hv : RRat w b0 v t.c) (hbl : ∀ s, s ∈ bl ↔ s = t ∨ (s ∈ al ∧ s.m ≠ t.m))
    (hown : w'.ownsMap Tryz.prog 66 elR g (n + 1) (D.put (ml t.m) (.held v))) (hg : w.grownBy w' (some g)) : MapIs w' b0 g (n + 1) bl (D.put (ml t.m) (.held v)) := by
 have hD := h.own.isMap
 have hr : ∀ g', some g = some g' → b0 ≤ g' ∧ ∀ cs, ¬ Bk w g' 112 cs := fun g' e => by injection e with e; subst e; exact ⟨hb0, h.noRow⟩
 refine ⟨hown, fun s hs => ?_, fun kl => ?_, fun s hs => ?_⟩
 ·rcases (hbl s).1 hs with rfl | ⟨hs, _⟩
  ·exact hm
  ·exact h.good s hs
 ·by_cases e : kl = ml t.m
  ·subst e
   rw [has_put_same hD (ml_key hm)]
   exact ⟨fun _ => ⟨t, (hbl t).2 (.inl rfl), rfl⟩, fun _ => rfl⟩
  ·rw [has_put_other e, h.has]
   constructor
   ·rintro ⟨s, hs, rfl⟩
    exact ⟨s, (hbl s).2 (.inr ⟨hs, fun e' => e (by rw [e'])⟩), rfl⟩
   ·rintro ⟨s, hs, rfl⟩
    rcases (hbl s).1 hs with rfl | ⟨hs, _⟩
    ·exact absurd rfl e
    ·exact ⟨s, hs, rfl⟩
 ·rcases (hbl s).1 hs with rfl | ⟨hs, hne⟩
  ·exact ⟨v, fun zd => atKey_put_same hD (ml_key hm) _ _, hv.grown' hg hr⟩
  ·obtain ⟨u, h1, h2⟩ := h.val s hs
   exact ⟨u, fun zd => by rw [atKey_put_other (fun e => hne (ml_inj (h.good s hs) hm e))]; exact h1 zd, h2.grown' hg hr⟩
end
theorem makeD_short {neg : Bool} {l m : List Int} (hu : U64 l) (hu' : U64 m) : (makeD neg l m).2.short := by
 unfold makeD
 by_cases h1 : (natMay l && natMay m) = false
 ·rw [if_pos h1]; exact ⟨by simp [zeroD], by simp [zeroD]⟩
 ·rw [if_neg h1]
  by_cases h2 : m.length = 0
  ·rw [if_pos h2]; exact ⟨by simp [zeroD], by simp [zeroD]⟩
  ·rw [if_neg h2]
   have h3 : natMay l = true ∧ natMay m = true := by simpa using h1
   have e1 := natMay_len h3.1
   have e2 := natMay_len h3.2
   have f1 := limbs_len.2 (Nat.lt_of_le_of_lt (Nat.div_le_self (val l) (Nat.gcd (val l) (val m))) (val_lt hu))
   have f2 := limbs_len.2 (Nat.lt_of_le_of_lt (Nat.div_le_self (val m) (Nat.gcd (val l) (val m))) (val_lt hu'))
   exact ⟨by show (limbs _).length ≤ _; omega, by show (limbs _).length ≤ _; omega⟩
theorem zeroD_short : zeroD.short := ⟨by simp [zeroD], by simp [zeroD]⟩
theorem addD_short (r s : RatD) : (addD r s).2.short := by
 unfold addD
 split
 ·exact zeroD_short
 ·split
  ·exact zeroD_short
  ·exact makeD_short (limbs_u64 _) (limbs_u64 _)
theorem mulD_short (r s : RatD) : (mulD r s).2.short := by
 unfold mulD
 split
 ·exact zeroD_short
 ·split
  ·exact zeroD_short
  ·exact makeD_short (limbs_u64 _) (limbs_u64 _)
end Go.Proofs.YtgjkgkgieeoalaaGreat
namespace Go.Proofs
open Go.Shelf
def Tryz.laysSlF014_f283_ren : Go.Shelf.Ren := ⟨fun | 14 => 283 | 20 => 303 | 21 => 304 | 22 => 305 | 23 => 306 | 24 => 307 | 25 => 308 | 26 => 309 | 27 => 310 | 46 => 318 | 47 => 287 | 48 => 288 | 49 => 319 | 50 => 320 | 15 => 191 | 57 => 323 | 28 => 252 | 29 => 136 | n => n, fun | 24 => 68 | 22 => 24 | 3 => 3 | 25 => 264 | 4 => 4 | 0 => 0 | 46 => 271 | 45 => 270 | 50 => 275 | 66 => 307 | 39 => 211 | 55 => 112 | 70 => 310 | 76 => 326 | 77 => 327 | 53 => 278 | 5 => 5 | 9 => 9 | n => n, fun | n => n⟩
theorem Tryz.laysSlF014_f283 : Go.Proofs.SlLaysF0.n14 Tryz.prog Tryz.laysSlF014_f283_ren := {
 mixed := by kernel_rfl
 f14 := ⟨Tryz.f283.name, by decide, Tryz.func283.trans (congrArg some (by kernel_rfl))⟩
 f15 := Tryz.func191.trans (congrArg some (by kernel_rfl))
 f20 := ⟨Tryz.f303.name, by decide, Tryz.func303.trans (congrArg some (by kernel_rfl))⟩
 f21 := ⟨Tryz.f304.name, by decide, Tryz.func304.trans (congrArg some (by kernel_rfl))⟩
 f22 := ⟨Tryz.f305.name, by decide, Tryz.func305.trans (congrArg some (by kernel_rfl))⟩
 f23 := ⟨Tryz.f306.name, by decide, Tryz.func306.trans (congrArg some (by kernel_rfl))⟩
 f24 := ⟨Tryz.f307.name, by decide, Tryz.func307.trans (congrArg some (by kernel_rfl))⟩
 f25 := ⟨Tryz.f308.name, by decide, Tryz.func308.trans (congrArg some (by kernel_rfl))⟩
 f26 := ⟨Tryz.f309.name, by decide, Tryz.func309.trans (congrArg some (by kernel_rfl))⟩
 f27 := ⟨Tryz.f310.name, by decide, Tryz.func310.trans (congrArg some (by kernel_rfl))⟩
 f28 := Tryz.func252.trans (congrArg some (by kernel_rfl))
 f29 := Tryz.func136.trans (congrArg some (by kernel_rfl))
 f46 := ⟨Tryz.f318.name, by decide, Tryz.func318.trans (congrArg some (by kernel_rfl))⟩
 f47 := Tryz.func287.trans (congrArg some (by kernel_rfl))
 f48 := Tryz.func288.trans (congrArg some (by kernel_rfl))
 f49 := ⟨Tryz.f319.name, by decide, Tryz.func319.trans (congrArg some (by kernel_rfl))⟩
 f50 := ⟨Tryz.f320.name, by decide, Tryz.func320.trans (congrArg some (by kernel_rfl))⟩
 f57 := ⟨Tryz.f323.name, by decide, Tryz.func323.trans (congrArg some (by kernel_rfl))⟩
 t0 := Tryz.underlying0
 a0 := Tryz.isAgg0
 z0 := Tryz.sizeOf0
 v0 := Tryz.zeroValue0
 t3 := Tryz.underlying3
 a3 := Tryz.isAgg3
 z3 := Tryz.sizeOf3
 v3 := Tryz.zeroValue3
 t4 := Tryz.underlying4
 a4 := Tryz.isAgg4
 z4 := Tryz.sizeOf4
 v4 := Tryz.zeroValue4
 t5 := Tryz.underlying5
 a5 := Tryz.isAgg5
 z5 := Tryz.sizeOf5
 v5 := Tryz.zeroValue5
 t9 := Tryz.underlying9
 a9 := Tryz.isAgg9
 z9 := Tryz.sizeOf9
 v9 := Tryz.zeroValue9
 t22 := Tryz.underlying24
 a22 := Tryz.isAgg24
 z22 := Tryz.sizeOf24
 v22 := Tryz.zeroValue24
 t25 := Tryz.underlying264
 a25 := Tryz.isAgg264
 z25 := Tryz.sizeOf264
 v25 := Tryz.zeroValue264
 t39 := Tryz.underlying211
 a39 := Tryz.isAgg211
 z39 := Tryz.sizeOf211
 v39 := Tryz.zeroValue211
 t45 := Tryz.underlying270
 a45 := Tryz.isAgg270
 z45 := Tryz.sizeOf270
 v45 := Tryz.zeroValue270
 t46 := Tryz.underlying271
 a46 := Tryz.isAgg271
 z46 := Tryz.sizeOf271
 v46 := Tryz.zeroValue271
 t50 := Tryz.underlying275
 a50 := Tryz.isAgg275
 z50 := Tryz.sizeOf275
 v50 := Tryz.zeroValue275
 t53 := Tryz.underlying278
 a53 := Tryz.isAgg278
 z53 := Tryz.sizeOf278
 v53 := Tryz.zeroValue278
 t55 := Tryz.underlying112
 a55 := Tryz.isAgg112
 z55 := Tryz.sizeOf112
 v55 := Tryz.zeroValue112
 t66 := Tryz.underlying307
 a66 := Tryz.isAgg307
 z66 := Tryz.sizeOf307
 v66 := Tryz.zeroValue307
 t70 := Tryz.underlying310
 a70 := Tryz.isAgg310
 z70 := Tryz.sizeOf310
 v70 := Tryz.zeroValue310
 t76 := Tryz.underlying326
 a76 := Tryz.isAgg326
 z76 := Tryz.sizeOf326
 v76 := Tryz.zeroValue326
 t77 := Tryz.underlying327
 a77 := Tryz.isAgg327
 z77 := Tryz.sizeOf327
 v77 := Tryz.zeroValue327 }
open Go.RowKit Go.Lib Go.Sort in
theorem Tryz.pdqsortCmpFunc_all {α : Type} [Inhabited α] (k : Nat) (aE : ∀ w, (isAgg 68).run Tryz.prog w = .ok true w) (zE : ∀ w, (Go.sizeOf 68).run Tryz.prog w = .ok k w) (enc : α → List Value) (cf : α → α → Int) (g : Nat) (cb : Array Value) (hO : SWO (ltOf cf)) (blk off cap : Nat) (d0 : Array α) (w0 : World) (eg : ∀ args w, (callFunc g args).run Tryz.prog w = .ok (.enter g args) w) (hcmp : CmpLays Tryz.prog g cb enc k cf blk off d0.size w0) (R : RowK enc k w0 blk off d0) :
    ∀ (N a b limit : Nat) (d : Array α) (w : World), b - a < N → d0.size = d.size → SWK enc k w0 blk off d w → a ≤ b → b ≤ d.size → d.size < 4611686018427387904 → limit < 4611686018427387904 → Below (ltOf cf) a b d →
    Calls Tryz.prog 283 #[.slice (some ⟨blk, off, none⟩) d.size cap, .int .i64 a, .int .i64 b, .int .i64 limit, .func (.func g) #[] cb] w fun e w' => e = .returned (.tuple #[]) ∧ SWK enc k w0 blk off (pdq (ltOf cf) d a b limit true true) w' := AnyQ.pdqsortCmpFunc_all Tryz.laysSlF014_f283 k aE zE enc cf g cb hO blk off cap d0 w0 eg hcmp R
end Go.Proofs
namespace Go.Proofs.YtgjkgkgieeoalaaGreat
open Go.RowKit
open Go.Sort hiding Below
structure Cell where
 A : Option Addr
 c : Nat
 B : Option Addr
 d : Nat
 t : TermD
 hm : monMay t.m = true
instance : Inhabited Cell := ⟨⟨none, 0, none, 0, ⟨zeroD, zeroM⟩, by decide⟩⟩
def encC (x : Cell) : List Value := [.bool x.t.c.neg, .slice x.A x.t.c.num.length x.c, .slice x.B x.t.c.den.length x.d, .int .i64 x.t.m.x0, .int .i64 x.t.m.x1, .int .i64 x.t.m.x2, .int .i64 x.t.m.x3]
def cfC (o : Int) (x y : Cell) : Int := monCmp o y.t.m x.t.m
theorem encC_len (x : Cell) : (encC x).length = 7 := rfl
theorem encC_one (x : Cell) : ∀ u ∈ encC x, u.oneCell' = true := by
 intro u hu
 simp [encC] at hu
 rcases hu with rfl | rfl | rfl | rfl | rfl | rfl | rfl <;> rfl
theorem swoC {o : Int} (ho : oOk o) : SWO (ltOf (cfC o)) where
 irrefl x := decide_eq_false (by rw [show cfC o x x = 0 from (monCmp_zero ho x.hm x.hm).2 rfl]; omega)
 trans x y z h1 h2 := decide_eq_true (monCmp_lt ho z.hm y.hm x.hm (of_decide_eq_true h2) (of_decide_eq_true h1))
 ntrans x y z h1 h2 := by
  have g1 : ¬ monCmp o y.t.m x.t.m < 0 := of_decide_eq_false h1
  have g2 : ¬ monCmp o z.t.m y.t.m < 0 := of_decide_eq_false h2
  refine decide_eq_false ?_
  show ¬ monCmp o z.t.m x.t.m < 0
  have e1 := monCmp_anti ho x.hm y.hm
  have e2 := monCmp_anti ho y.hm z.hm
  have e3 := monCmp_anti ho x.hm z.hm
  have := monCmp_le ho x.hm y.hm z.hm (by omega) (by omega)
  omega
theorem Blw.grows {w w' : World} (h : Blw w.heap.size w w') : ∃ q os, w' = grow (w.drewN q) os := by
 obtain ⟨⟨h1, h2, h3, h4, h5⟩, h6⟩ := h
 refine ⟨w'.drawn - w.drawn, w'.heap.extract w.heap.size w'.heap.size, ?_⟩
 cases w with
 | mk heap tape drawn os output =>
   cases w' with
   | mk heap' tape' drawn' os' output' =>
     simp only at h1 h2 h3 h4 h5 h6
     subst h1 h2 h3
     simp only [grow, World.drewN, World.mk.injEq, true_and, and_true]
     refine ⟨?_, by omega⟩
     apply Array.ext_getElem?
     intro i
     rcases Nat.lt_or_ge i heap.size with hi | hi
     ·rw [Array.getElem?_append_left hi]; exact h5 i hi
     ·rw [Array.getElem?_append_right hi, Array.getElem?_extract]
      rcases Nat.lt_or_ge i heap'.size with hj | hj
      ·rw [if_pos (by omega)]; congr 1; omega
      ·rw [if_neg (by omega), Array.getElem?_eq_none hj]
theorem sort_grown {w : World} {blk off n : Nat} {d : Array Cell} {os : Array Obj} : w.grownBy (sortWorldK encC 7 w blk off n d os) (some blk) := by
 refine ⟨rfl, rfl, rfl, ?_, fun k hk hne => ?_⟩
 ·simp [sortWorldK, grow, putRowK, putRow, mapBlock, ahead]
 ·simp only [sortWorldK, grow, putRowK, putRow, mapBlock, ahead]
  rw [Array.getElem?_append_left (by simpa using hk), Array.getElem?_modify, if_neg (fun e => hne (by rw [e]))]
  rfl
theorem flat_get : ∀ (cs : List Cell) (j : Nat), (cs.flatMap encC)[j]? = (cs[j / 7]?).bind fun x => (encC x)[j % 7]?
 | [], j => by simp
 | x :: cs, j => by
   rw [List.flatMap_cons]
   rcases Nat.lt_or_ge j 7 with h | h
   ·rw [List.getElem?_append_left (by rw [encC_len]; exact h), Nat.div_eq_of_lt h, Nat.mod_eq_of_lt h]; rfl
   ·rw [List.getElem?_append_right (by rw [encC_len]; exact h), encC_len, flat_get cs, show j / 7 = (j - 7) / 7 + 1 by omega, show j % 7 = (j - 7) % 7 by omega]; rfl
theorem flat_len (cs : List Cell) : (cs.flatMap encC).length = cs.length * 7 := by
 induction cs with
 | nil => rfl
 | cons x cs ih => rw [List.flatMap_cons, List.length_append, ih, encC_len, List.length_cons]; omega
theorem own_holds {w : World} {base g n cap : Nat} {cs : List Cell} (h : w.ownsRow base 68 7 (.slice (some ⟨g, 0, none⟩) n cap) n (cs.flatMap encC)) (hn : cs.length = n) : HoldsK encC 7 w g 0 cs.toArray ∧ g < w.heap.size ∧ base ≤ g := by
 rcases h.2 with ⟨e, _⟩ | ⟨g', cap', cur, e, h2, h3, h4, h5, h6, h7⟩
 ·cases e
 ·injection e with e1 e2 e3
  injection e1 with e1
  injection e1 with e1
  subst e1
  have hgl : g < w.heap.size := by
   rcases Nat.lt_or_ge g w.heap.size with h | h
   ·exact h
   ·rw [Array.getElem?_eq_none h] at h3; cases h3
  refine ⟨fun j hj => ?_, hgl, h2⟩
  rw [Nat.zero_add]
  simp only [size_flatK, List.size_toArray] at hj
  have hj2 : j < (cs.flatMap encC).length := by rw [flat_len]; exact hj
  have e1 : cur[j]? = (cs.flatMap encC)[j]? := by
   rw [← h7, List.getElem?_take]
   rw [if_pos (by omega)]
   simp
  refine ⟨?_, by simp [World.frozen?, h3]⟩
  have e2 : w.cell? ⟨g, j, none⟩ = cur[j]? := by simp [World.cell?, h3]
  rw [e2, e1, flat_get]
  have e3 : j / 7 < cs.length := by omega
  have e4 : j % 7 < (encC cs[j / 7]).length := by rw [encC_len]; omega
  rw [get_flatK encC 7 cs.toArray j (by simpa using hj), List.getElem?_eq_getElem e3]
  simp [e3, List.getElem?_eq_getElem e4, getElem!_pos, e4]
theorem holds_rd {w : World} {g : Nat} {cs : List Cell} (h : HoldsK encC 7 w g 0 cs.toArray) (hg : g < w.heap.size) : Rd w w.heap.size 7 (some ⟨g, 0, none⟩) cs.length (cs.flatMap encC) := by
 refine ⟨flat_len cs, fun _ => ⟨_, rfl, hg, fun j u hu => ?_⟩⟩
 have hj : j < (cs.flatMap encC).length := by
  rcases Nat.lt_or_ge j (cs.flatMap encC).length with h | h
  ·exact h
  ·rw [List.getElem?_eq_none h] at hu; cases hu
 have hj' : j < cs.length * 7 := by rw [← flat_len]; exact hj
 have h1 := (h j (by simpa using hj')).1
 rw [add_win, h1, ← hu, flat_get]
 have e3 : j / 7 < cs.length := by omega
 have e4 : j % 7 < (encC cs[j / 7]).length := by rw [encC_len]; omega
 rw [Nat.zero_add] at *
 rw [show (id (flatK encC 7 cs.toArray)[j]! : Value) = (flatK encC 7 cs.toArray)[j]! from rfl, get_flatK encC 7 cs.toArray j (by simpa using hj'), List.getElem?_eq_getElem e3]
 simp [e3, List.getElem?_eq_getElem e4, getElem!_pos, e4]
theorem nodup_fall {o : Int} (ho : oOk o) {cs : List Cell} {d' : Array Cell} (hnd : (cs.map (·.t.m)).Nodup) (hp : PermIn 0 cs.toArray.size cs.toArray d') (hs : SortedIn (ltOf (cfC o)) 0 cs.toArray.size d') :
    d'.toList.Perm cs ∧ Fall o (d'.toList.map (·.t)) := by
 obtain ⟨h1, _, h3⟩ := hp
 have hperm : d'.toList.Perm cs := by
  have e1 : d'.extract 0 cs.toArray.size = d' := by rw [← h1]; simp
  rw [e1] at h3
  simpa using h3
 refine ⟨hperm, ?_⟩
 have hnd' : (d'.toList.map (·.t.m)).Nodup := ((hperm.map _).nodup_iff).2 hnd
 unfold Fall
 rw [List.pairwise_map, List.pairwise_iff_getElem]
 intro i j hi hj hij
 have hj2 : j < d'.size := by simpa using hj
 have hi2 : i < d'.size := by simpa using hi
 have h4 := hs i j (Nat.zero_le _) hij (by rw [← h1]; exact hj2)
 rw [getElem!_pos d' j hj2, getElem!_pos d' i hi2] at h4
 have h5 : ¬ monCmp o d'[i].t.m d'[j].t.m < 0 := of_decide_eq_false h4
 have h6 : d'[i].t.m ≠ d'[j].t.m := by
  have := List.pairwise_iff_getElem.1 hnd' i j (by simpa using hi2) (by simpa using hj2) hij
  simpa using this
 have h7 := (not_congr (monCmp_zero ho d'[i].hm d'[j].hm)).2 h6
 simp only [Array.getElem_toList]
 omega
theorem sort_terms (o : Int) (ho : oOk o) (g gb cap : Nat) (cs : List Cell) (w : World) (hH : HoldsK encC 7 w g 0 cs.toArray) (hg : g < w.heap.size) (hgb : w.cell? ⟨gb, 0, none⟩ = some (.int .i64 o)) (hne : gb ≠ g) (hn : cs.length ≤ 1000000000) (hnd : (cs.map (·.t.m)).Nodup) :
    Calls Tryz.prog 238 #[.slice (some ⟨g, 0, none⟩) cs.length cap, .func (.func 239) #[] #[.pointer (some ⟨gb, 0, none⟩)]] w fun e w' =>
     e = .returned (.tuple #[]) ∧ ∃ ds : List Cell, ds.Perm cs ∧ Fall o (ds.map (·.t)) ∧ w.grownBy w' (some g) ∧ HoldsK encC 7 w' g 0 ds.toArray := by
 have hcmp : CmpLays Tryz.prog 239 #[.pointer (some ⟨gb, 0, none⟩)] encC 7 (cfC o) g 0 cs.toArray.size w := fun m os dk hs x y => by
  have hc : (sortWorldK encC 7 w g 0 m dk os).cell? ⟨gb, 0, none⟩ = some (.int .i64 o) := by
   rw [← hgb]
   exact World.cell?_of_block (sort_grown.block gb (World.block_lt_of_cell? w _ hgb) (fun e => hne (by injection e)))
  exact (Make_2 gb o x.t y.t x.A x.B y.A y.B x.c x.d y.c y.d _ hc).mono fun e w' ⟨he, hb⟩ => ⟨he, hb.grows⟩
 have hlim : Lib.bitLen cs.toArray.size < 4611686018427387904 := Nat.lt_of_le_of_lt (Lib.bitLen_le cs.toArray.size 62 (by simp) (by rw [List.size_toArray]; omega)) (by omega)
 have hp := Tryz.pdqsortCmpFunc_all 7 Tryz.isAgg68 Tryz.sizeOf68 encC (cfC o) 239 #[.pointer (some ⟨gb, 0, none⟩)] (swoC ho) g 0 cap cs.toArray w (enters_of Tryz.func239 (by kernel_rfl) rfl) hcmp ⟨encC_len, encC_one, hH, hg⟩
  (cs.toArray.size + 1) 0 cs.toArray.size (Lib.bitLen cs.toArray.size) cs.toArray w (by omega) rfl (SWK.start hH) (Nat.zero_le _) (Nat.le_refl _) (by simp; omega) hlim (Or.inl rfl)
 have hl := Tryz.bits_Len (cs.length : Int) w (by omega) (by omega)
 rw [Int.toNat_natCast] at hl
 have HS := Hd.mk (pdq_sorts (ltOf (cfC o)) (swoC ho) cs.toArray 0 cs.toArray.size (Lib.bitLen cs.toArray.size) true true (Nat.zero_le _) (Nat.le_refl _) (Or.inl rfl))
 rw [List.size_toArray] at hp HS
 obtain ⟨L, hL⟩ : ∃ L, Lib.bitLen cs.length = L := ⟨_, rfl⟩
 rw [hL] at hp hl HS
 obtain ⟨D, hD⟩ : ∃ D, pdq (ltOf (cfC o)) cs.toArray 0 cs.length L true true = D := ⟨_, rfl⟩
 rw [hD] at hp HS
 have HP := Hd.mk hp
 have HL := Hd.mk hl
 have HH := Hd.mk hH
 have HN := Hd.mk hnd
 clear hp hl hL hD hcmp hH hlim hgb hnd
 have wr : IntKind.u64.wrap (cs.length : Int) = cs.length := by simp [IntKind.wrap, IntKind.bits, IntKind.signed]; omega
 go_enter Tryz.func238, Tryz.ntmps238
 go_wp2_with fail
 refine HL.out.mono ?_
 rintro e w' ⟨rfl, rfl⟩
 go_wp2_with fail
 refine HP.out.mono ?_
 rintro e w2 ⟨rfl, n, os, rfl⟩
 go_wp2_with fail
 go_end0
 rw [List.size_toArray] at *
 obtain ⟨h1, h2⟩ := nodup_fall ho HN.out (by rw [List.size_toArray]; exact HS.out.1) (by rw [List.size_toArray]; exact HS.out.2)
 refine ⟨rfl, D.toList, h1, h2, sort_grown, ?_⟩
 have := holdsK_sortWorldK encC 7 w' g 0 n cs.toArray D os hg HH.out (by rw [List.size_toArray]; exact HS.out.1.1)
 simpa using this
end Go.Proofs.YtgjkgkgieeoalaaGreat
