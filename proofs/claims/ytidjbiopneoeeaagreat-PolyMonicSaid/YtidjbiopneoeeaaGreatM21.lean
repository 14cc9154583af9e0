/- Parts of the proof, joined: what each says stands at its head. -/
import Derived.Test.YtidjbiopneoeeaaGreatM20
import Derived.Test.YtidjbiopneoeeaaGreatM04
import Derived.WideKeyPair
import Derived.Maps.OwnSet
import Derived.Maps.RangeWalk
set_option linter.unusedVariables false
set_option linter.unusedSimpArgs false
/- Walks of poly.Make's first closure and of the search of an odd term. The condition: short rows. -/
namespace Go.Proofs.YtidjbiopneoeeaaGreat
open Go.RowKit

set_option maxHeartbeats 1000000 in
theorem Make_1 (b0 : Nat) (v : Value) (t : TermD) (w : World) (h : RTerm w b0 v t) (hs : t.c.short) :
    Calls Tryz.prog 86 #[v] w fun e w' => e = .returned (.bool (!right t)) ∧ Below w.heap.size w w' := by
  have C1 := Hd.mk (fun W (hB : Hd (Below w.heap.size w W)) => poly_right b0 v t W (h.up hB.out) hs)
  obtain ⟨A, c, B, d, rfl, h1, h2, h3, h4⟩ := h
  clear h3 h4
  go_enter Tryz.func86, Tryz.ntmps86
  go_wp2_with fail
  refine (C1.out _ ⟨(Below.refl _ _).alloc (Nat.le_refl _) _⟩).mono ?_
  rintro e w4 ⟨rfl, hb4⟩
  have HB := Hd.mk (((Below.refl w.heap.size w).alloc (Nat.le_refl _) (Obj.cells #[.bool t.c.neg, .slice A t.c.num.length c, .slice B t.c.den.length d, .int .i64 t.m.x0, .int .i64 t.m.x1, .int .i64 t.m.x2, .int .i64 t.m.x3] 67)).trans (hb4.mono (by simp)))
  clear hb4
  go_wp2_with fail
  go_ret
  exact ⟨rfl, HB.out⟩

def anyOdd (ts : List TermD) : Bool := ts.any fun t => !right t

set_option maxHeartbeats 2000000 in
set_option maxRecDepth 100000 in
theorem index_odd (b0 : Nat) (A : Option Addr) (c : Nat) (ts : List TermD) (w : World) (h : RPol w b0 A ts) (hn : ts.length ≤ c) (hs : shortP ts) :
    Calls Tryz.prog 150 #[.slice A ts.length c, .func (.func 86) #[] #[]] w fun e w' => ∃ i : Int, e = .returned (.int .i64 i) ∧ decide (0 ≤ i) = anyOdd ts ∧ Below w.heap.size w w' := by
  have H := Hd.mk h
  have HS := Hd.mk hs
  have hl := hs.1
  clear h hs
  go_enter Tryz.func150, Tryz.ntmps150
  go_wp2_with fail
  go_loopw [8] (fun v wr => ∃ i : Nat, v = .int .i64 i ∧ i ≤ ts.length ∧ Hd (anyOdd (ts.take i) = false) ∧ Hd (Below w.heap.size w wr)) (fun v _ => ts.length - (intOf v).toNat)
  case atStart => exact ⟨0, rfl, by omega, ⟨rfl⟩, ⟨.refl _ _⟩⟩
  case round =>
    obtain ⟨i, rfl, hi, ht, hb⟩ := hrel
    by_cases hlt : i < ts.length
    · obtain ⟨ad, B1, c1, B2, c2, t, rfl, hab, hti, hrt, q0, q1, q2, q3, q4, q5, q6⟩ := (H.out.up hb.out).get hlt
      have i2 : (i : Int) < ts.length := by omega
      have i3 : (0 : Int) ≤ i := by omega
      have hst := HS.out.2 t (List.mem_of_getElem? hti.out)
      have CB := Hd.mk (Make_1 b0 _ t wr hrt.out hst)
      have hsn : Hd (anyOdd (ts.take (i + 1)) = (anyOdd (ts.take i) || !right t)) := ⟨by
        rw [List.take_add_one, hti.out, anyOdd, List.any_append]; simp [anyOdd]⟩
      clear hst hrt
      cases h8 : right t
      · rw [h8] at CB hsn
        clear h8
        go_wp2_with fail
        refine CB.out.mono ?_
        rintro e w' ⟨rfl, hb2⟩
        have HB := Hd.mk (hb.out.trans (hb2.mono hb.out.size))
        clear hb2 q0 q1 q2 q3 q4 q5 q6
        go_wp2_with fail
        go_ret
        refine ⟨_, rfl, ?_, HB.out⟩
        have h1 := hsn.out
        rw [Bool.not_false, Bool.or_true] at h1
        rw [decide_eq_true (by omega : (0 : Int) ≤ i)]
        conv => rhs; rw [← List.take_append_drop (i + 1) ts]
        rw [anyOdd, List.any_append, show (List.take (i + 1) ts).any (fun t => !right t) = true from h1]; rfl
      · rw [h8] at CB hsn
        clear h8
        go_wp2_with fail
        refine CB.out.mono ?_
        rintro e w' ⟨rfl, hb2⟩
        have HB := Hd.mk (hb.out.trans (hb2.mono hb.out.size))
        clear hb2 q0 q1 q2 q3 q4 q5 q6
        go_wp2_with fail
        go_roundw
        case measure => first | (simp [intOf]; done) | (simp [intOf]; omega)
        case rel => exact ⟨i + 1, by go_num, by omega, ⟨by rw [hsn.out, ht.out]; rfl⟩, HB⟩
    · have hie : i = ts.length := by omega
      subst hie
      go_wp2_with fail
      go_ret
      refine ⟨_, rfl, ?_, hb.out⟩
      have := ht.out
      rw [List.take_length] at this
      rw [this]; rfl

set_option maxHeartbeats 400000 in
theorem contains_odd (b0 : Nat) (A : Option Addr) (c : Nat) (ts : List TermD) (w : World) (h : RPol w b0 A ts) (hn : ts.length ≤ c) (hs : shortP ts) :
    Calls Tryz.prog 89 #[.slice A ts.length c, .func (.func 86) #[] #[]] w fun e w' => e = .returned (.bool (anyOdd ts)) ∧ Below w.heap.size w w' := by
  have hi := Hd.mk (index_odd b0 A c ts w h hn hs)
  clear h hs
  go_enter Tryz.func89, Tryz.ntmps89
  go_wp2_with fail
  refine hi.out.mono ?_
  rintro e w' ⟨i, rfl, hib, hb⟩
  have HIB := Hd.mk hib
  have HB := Hd.mk hb
  clear hib hb
  go_wp2_with fail
  go_ret
  exact ⟨retBool HIB.out, HB.out⟩

set_option maxHeartbeats 1000000 in
set_option maxRecDepth 100000 in
/-- the order of the sort: poly.Make's second closure; the order lies in a box -/
theorem Make_2 (g : Nat) (order : Int) (s t : TermD) (A B A' B' : Option Addr) (c d c' d' : Nat) (w : World) (hg : w.cell? ⟨g, 0, none⟩ = some (.int .i64 order)) :
    Calls Tryz.prog 93 #[.agg #[.bool s.c.neg, .slice A s.c.num.length c, .slice B s.c.den.length d, .int .i64 s.m.x0, .int .i64 s.m.x1, .int .i64 s.m.x2, .int .i64 s.m.x3], .agg #[.bool t.c.neg, .slice A' t.c.num.length c', .slice B' t.c.den.length d', .int .i64 t.m.x0, .int .i64 t.m.x1, .int .i64 t.m.x2, .int .i64 t.m.x3], .pointer (some ⟨g, 0, none⟩)] w fun e w' => e = .returned (.int .i64 (monCmp order t.m s.m)) ∧ Blw w.heap.size w w' := by
  have C1 := Hd.mk (fun W => mono_Cmp order t.m s.m W)
  have hg2 := cell_up (cell_up hg ((Below.refl w.heap.size w).alloc (Nat.le_refl _) (Obj.cells #[.bool s.c.neg, .slice A s.c.num.length c, .slice B s.c.den.length d, .int .i64 s.m.x0, .int .i64 s.m.x1, .int .i64 s.m.x2, .int .i64 s.m.x3] 67))) ((Below.refl _ _).alloc (Nat.le_refl _) (Obj.cells #[.bool t.c.neg, .slice A' t.c.num.length c', .slice B' t.c.den.length d', .int .i64 t.m.x0, .int .i64 t.m.x1, .int .i64 t.m.x2, .int .i64 t.m.x3] 67))
  go_enter Tryz.func93, Tryz.ntmps93
  go_wp2_with fail
  refine (C1.out _).mono ?_
  rintro e w4 ⟨rfl, hb4⟩
  have HB := Hd.mk ((((Blw.refl w.heap.size w).alloc (Nat.le_refl _) (Obj.cells #[.bool s.c.neg, .slice A s.c.num.length c, .slice B s.c.den.length d, .int .i64 s.m.x0, .int .i64 s.m.x1, .int .i64 s.m.x2, .int .i64 s.m.x3] 67)).alloc (by simp) (Obj.cells #[.bool t.c.neg, .slice A' t.c.num.length c', .slice B' t.c.den.length d', .int .i64 t.m.x0, .int .i64 t.m.x1, .int .i64 t.m.x2, .int .i64 t.m.x3] 67)).trans (hb4.mono (by simp; omega)))
  clear hb4
  go_wp2_with fail
  go_ret
  exact ⟨rfl, HB.out⟩
end Go.Proofs.YtidjbiopneoeeaaGreat
/- What poly.Make and its fellows come to, on data; plain laws. No condition. -/
namespace Go.Proofs.YtidjbiopneoeeaaGreat

def insD (o : Int) (t : TermD) : List TermD → List TermD
  | [] => [t]
  | p :: r => if monCmp o p.m t.m < 0 then t :: p :: r else p :: insD o t r
def hasM (al : List TermD) (m : MonD) : Bool := al.any fun p => decide (p.m = m)
def getM (al : List TermD) (m : MonD) : RatD := ((al.find? fun p => decide (p.m = m)).map (·.c)).getD zeroD
def setM (al : List TermD) (m : MonD) (c : RatD) : List TermD := al.map fun p => if p.m = m then ⟨c, m⟩ else p
def putD (o : Int) (al : List TermD) (t : TermD) : Int × List TermD :=
  if hasM al t.m = true then (if (addD (getM al t.m) t.c).1 ≠ 0 then ((addD (getM al t.m) t.c).1, []) else (0, setM al t.m (addD (getM al t.m) t.c).2)) else (0, insD o t al)
def putAll (o : Int) : List TermD → List TermD → Int × List TermD
  | al, [] => (0, al)
  | al, t :: ts => if (putD o al t).1 ≠ 0 then ((putD o al t).1, []) else putAll o (putD o al t).2 ts
def nz (t : TermD) : Bool := !decide (t.c.num.length = 0)
def polMake (o : Int) (ts : List TermD) : Int × List TermD :=
  if (ordered o && !anyOdd ts) = false then (1, []) else if (putAll o [] ts).1 ≠ 0 then ((putAll o [] ts).1, []) else if 60 < ((putAll o [] ts).2.filter nz).length then (90, []) else (0, (putAll o [] ts).2.filter nz)

def Fall (o : Int) (al : List TermD) : Prop := al.Pairwise fun p q => 0 < monCmp o p.m q.m
def GoodM (al : List TermD) : Prop := ∀ t ∈ al, monMay t.m = true
/-- the state of a sum of terms -/
structure Sta (o : Int) (al : List TermD) : Prop where
  ord : oOk o
  good : GoodM al
  fall : Fall o al

theorem ordered_ok {o : Int} : ordered o = true ↔ oOk o := by unfold ordered oOk; simp
theorem insD_perm (o : Int) (t : TermD) : ∀ al, (insD o t al).Perm (t :: al)
  | [] => .refl _
  | p :: r => by
    unfold insD
    split
    · exact .refl _
    · exact ((insD_perm o t r).cons p).trans (.swap _ _ _)
theorem mem_insD {o : Int} {s t : TermD} {al : List TermD} : s ∈ insD o t al ↔ s = t ∨ s ∈ al := by
  rw [(insD_perm o t al).mem_iff, List.mem_cons]
theorem Sta.ins {o : Int} {al : List TermD} (h : Sta o al) {t : TermD} (ht : monMay t.m = true) (hn : ∀ p ∈ al, p.m ≠ t.m) : Sta o (insD o t al) := by
  refine ⟨h.ord, fun s hs => ?_, ?_⟩
  · rcases mem_insD.1 hs with rfl | hs
    · exact ht
    · exact h.good s hs
  · obtain ⟨ho, hg, hf⟩ := h
    induction al with
    | nil => exact List.pairwise_singleton _ _
    | cons p r ih =>
      obtain ⟨h1, h2⟩ := List.pairwise_cons.1 hf
      have hp := hg p (by simp)
      unfold insD
      split
      · rename_i hlt
        refine List.pairwise_cons.2 ⟨fun q hq => ?_, hf⟩
        have h3 : 0 < monCmp o t.m p.m := by have := monCmp_anti ho hp ht; omega
        rcases List.mem_cons.1 hq with rfl | hq
        · exact h3
        · exact monCmp_gt ho ht hp (hg q (by simp [hq])) h3 (h1 q hq)
      · rename_i hlt
        refine List.pairwise_cons.2 ⟨fun q hq => ?_, ih (fun s hs => hn s (by simp [hs])) (fun s hs => hg s (by simp [hs])) h2⟩
        rcases mem_insD.1 hq with rfl | hq
        · have := (not_congr (monCmp_zero ho hp ht)).2 (hn p (by simp))
          omega
        · exact h1 q hq
theorem hasM_iff {al : List TermD} {m : MonD} : hasM al m = true ↔ ∃ p ∈ al, p.m = m := by unfold hasM; simp
theorem hasM_not {al : List TermD} {m : MonD} (h : hasM al m = false) : ∀ p ∈ al, p.m ≠ m := fun p hp e => by
  have := hasM_iff.2 ⟨p, hp, e⟩
  rw [h] at this; cases this
theorem getM_of {al : List TermD} {m : MonD} (h : hasM al m = true) : ∃ p ∈ al, p.m = m ∧ getM al m = p.c := by
  unfold getM
  cases hf : al.find? fun p => decide (p.m = m) with
  | none =>
    obtain ⟨p, hp, e⟩ := hasM_iff.1 h
    have := List.find?_eq_none.1 hf p hp
    simp [e] at this
  | some p => exact ⟨p, List.mem_of_find?_eq_some hf, by simpa using List.find?_some hf, rfl⟩
theorem setM_keys (al : List TermD) (m : MonD) (c : RatD) : (setM al m c).map (·.m) = al.map (·.m) := by
  unfold setM
  rw [List.map_map]
  refine List.map_congr_left fun p _ => ?_
  simp only [Function.comp]
  split
  · rename_i h; exact h.symm
  · rfl
theorem fall_keys {o : Int} {al bl : List TermD} (h : al.map (·.m) = bl.map (·.m)) (hf : Fall o al) : Fall o bl := by
  unfold Fall at *
  have h1 : (al.map (·.m)).Pairwise fun a b => 0 < monCmp o a b := List.pairwise_map.2 hf
  rw [h] at h1
  exact List.pairwise_map.1 h1
theorem good_keys {al bl : List TermD} (h : al.map (·.m) = bl.map (·.m)) (hg : GoodM al) : GoodM bl := fun t ht => by
  have : t.m ∈ al.map (·.m) := by rw [h]; exact List.mem_map.2 ⟨t, ht, rfl⟩
  obtain ⟨s, hs, e⟩ := List.mem_map.1 this
  rw [← e]; exact hg s hs
theorem Sta.set {o : Int} {al : List TermD} (h : Sta o al) (m : MonD) (c : RatD) : Sta o (setM al m c) :=
  ⟨h.ord, good_keys (setM_keys al m c).symm h.good, fall_keys (setM_keys al m c).symm h.fall⟩
theorem mem_setM {al : List TermD} {m : MonD} {c : RatD} (hh : hasM al m = true) {s : TermD} : s ∈ setM al m c ↔ s = ⟨c, m⟩ ∨ (s ∈ al ∧ s.m ≠ m) := by
  unfold setM
  rw [List.mem_map]
  constructor
  · rintro ⟨p, hp, rfl⟩
    split
    · exact .inl rfl
    · rename_i h; exact .inr ⟨hp, h⟩
  · rintro (rfl | ⟨hs, hm⟩)
    · obtain ⟨p, hp, e⟩ := hasM_iff.1 hh
      exact ⟨p, hp, by rw [if_pos e]⟩
    · exact ⟨s, hs, by rw [if_neg hm]⟩
theorem Sta.nil {o : Int} (h : oOk o) : Sta o [] := ⟨h, (fun _ h => by cases h), List.Pairwise.nil⟩
theorem Sta.inj {o : Int} {al : List TermD} (h : Sta o al) {s t : TermD} (hs : s ∈ al) (ht : t ∈ al) (e : s.m = t.m) : s = t := by
  obtain ⟨ho, hg, hf⟩ := h
  induction al with
  | nil => cases hs
  | cons p r ih =>
    obtain ⟨h1, h2⟩ := List.pairwise_cons.1 hf
    have key : ∀ q ∈ r, q.m ≠ p.m := fun q hq e => by
      have := h1 q hq
      rw [(monCmp_zero ho (hg p (by simp)) (hg q (by simp [hq]))).2 e.symm] at this
      omega
    rcases List.mem_cons.1 hs with es | hs'
    · rcases List.mem_cons.1 ht with et | ht'
      · rw [es, et]
      · exact absurd (by rw [← e, es]) (key _ ht')
    · rcases List.mem_cons.1 ht with et | ht'
      · exact absurd (by rw [e, et]) (key _ hs')
      · exact ih hs' ht' (fun q hq => hg q (by simp [hq])) h2
theorem Sta.putD {o : Int} {al : List TermD} (h : Sta o al) {t : TermD} (ht : monMay t.m = true) (he : (putD o al t).1 = 0) : Sta o (putD o al t).2 := by
  revert he
  unfold Go.Proofs.YtidjbiopneoeeaaGreat.putD
  by_cases hh : hasM al t.m = true
  · rw [if_pos hh]
    by_cases h0 : (addD (getM al t.m) t.c).1 ≠ 0
    · rw [if_pos h0]; intro he; exact absurd he h0
    · rw [if_neg h0]; intro _; exact h.set _ _
  · rw [if_neg hh]; intro _; exact h.ins ht (hasM_not (by simpa using hh))
/-- two falling lists of the same terms are one -/
theorem fall_eq {o : Int} : ∀ {l m : List TermD}, oOk o → GoodM l → Fall o l → Fall o m → l.Perm m → l = m
  | [], m, _, _, _, _, hp => (List.nil_perm.1 hp).symm
  | x :: l, [], _, _, _, _, hp => by have := hp.length_eq; simp at this
  | x :: l, y :: m, ho, hg, h1, h2, hp => by
    obtain ⟨a1, a2⟩ := List.pairwise_cons.1 h1
    obtain ⟨b1, b2⟩ := List.pairwise_cons.1 h2
    have hxm : x ∈ y :: m := hp.mem_iff.1 (by simp)
    have hym : y ∈ x :: l := hp.mem_iff.2 (by simp)
    have hgx := hg x (by simp)
    have hgy := hg y hym
    have e : x = y := by
      rcases List.mem_cons.1 hxm with h | h
      · exact h
      · rcases List.mem_cons.1 hym with h' | h'
        · exact h'.symm
        · have c1 := b1 x h
          have c2 := a1 y h'
          have := monCmp_anti ho hgx hgy
          omega
    subst e
    rw [fall_eq ho (fun t ht => hg t (by simp [ht])) a2 b2 (List.Perm.cons_inv hp)]
theorem Fall.filter {o : Int} {l : List TermD} (h : Fall o l) (p : TermD → Bool) : Fall o (l.filter p) := List.Pairwise.filter p h
theorem insD_len (o : Int) (t : TermD) (al : List TermD) : (insD o t al).length = al.length + 1 := (insD_perm o t al).length_eq
theorem putAll_le (o : Int) : ∀ (ts al bl : List TermD), putAll o al ts = (0, bl) → bl.length ≤ al.length + ts.length
  | [], al, bl, h => by
    unfold putAll at h
    injection h with _ h
    rw [h]; simp
  | t :: ts, al, bl, h => by
    unfold putAll at h
    by_cases h0 : (putD o al t).1 ≠ 0
    · rw [if_pos h0] at h
      injection h with h _
      exact absurd h h0
    · rw [if_neg h0] at h
      have h1 := putAll_le o ts _ bl h
      have h2 : (putD o al t).2.length ≤ al.length + 1 := by
        unfold putD
        split
        · split
          · simp
          · simp [setM]
        · rw [insD_len]; exact Nat.le_refl _
      rw [List.length_cons]
      omega
theorem putAll_len {o : Int} {ts al : List TermD} (h : putAll o [] ts = (0, al)) : al.length ≤ ts.length := by
  have := putAll_le o ts [] al h
  simpa using this
end Go.Proofs.YtidjbiopneoeeaaGreat
/- A map from monomials to rationals, as data: what a map's block holds. No condition. -/
namespace Go.Proofs.YtidjbiopneoeeaaGreat
open Go.RowKit Go.Maps Go.WideMaps

theorem Tryz.arK : ArrKey Tryz.prog 65 3 4 := ⟨Tryz.underlying65, by kernel_rfl, by kernel_rfl, by kernel_rfl⟩
theorem Tryz.szs : ∃ m, Tryz.prog.types.size = m + 1 := ⟨Tryz.prog.types.size - 1, by kernel_rfl⟩
theorem Tryz.keyed : Keyed Tryz.prog 65 := Keyed.of_law Tryz.arK.law
theorem Tryz.mapT : Tryz.prog.underlying 136 = some (.map 65 63) := by kernel_rfl
theorem Tryz.zRat (w : World) : (zeroValue 63).run Tryz.prog w = .ok (.agg #[.bool false, .slice none 0 0, .slice none 0 0]) w := by kernel_rfl

theorem keyOf_four {P : Program} {k e : TypeId} {q : IntKind} (A : ArrKey P k e 4) (he : P.underlying e = some (.int q)) (hsz : ∃ m, P.types.size = m + 1) {a b c d : Int} (wa : (Lit.int q a).wf = true) (wb : (Lit.int q b).wf = true) (wc : (Lit.int q c).wf = true) (wd : (Lit.int q d).wf = true) :
    keyOf P k (.agg #[.int q a, .int q b, .int q c, .int q d]) = some (.string (keyBytes [.int q a, .int q b, .int q c, .int q d])) := by
  have hkt := A.keyType hsz
  obtain ⟨m, hm⟩ := hsz
  unfold keyOf
  simp only [A.hu]
  rw [if_pos (by simp [hkt, Value.formed, A.hu, A.size]), hm]
  unfold Program.keyLits
  simp only [A.hu, Value.cells]
  rw [if_pos (by rw [A.size]; rfl), show List.range 4 = [0, 1, 2, 3] from rfl, List.mapM_cons, List.mapM_cons, List.mapM_cons, List.mapM_cons, List.mapM_nil]
  simp [A.one, Program.keyLits, he, wa, wb, wc, wd]

/-- a monomial's value, and the key that it reads as -/
def mv (m : MonD) : Value := .agg #[.int .i64 m.x0, .int .i64 m.x1, .int .i64 m.x2, .int .i64 m.x3]
def ml (m : MonD) : Lit := .string (keyBytes [.int .i64 m.x0, .int .i64 m.x1, .int .i64 m.x2, .int .i64 m.x3])
theorem wf_small {x : Int} (h0 : 0 ≤ x) (h1 : x ≤ 40) : (Lit.int .i64 x).wf = true := by
  simp [Lit.wf]
  constructor
  · show (-9223372036854775808 : Int) ≤ x; omega
  · omega
theorem keyOf_mv {m : MonD} (h : monMay m = true) : keyOf Tryz.prog 65 (mv m) = some (ml m) := by
  obtain ⟨h0, h1, h2, h3⟩ := monMay_of h
  exact keyOf_four Tryz.arK Tryz.underlying3 Tryz.szs (wf_small h0.1 h0.2) (wf_small h1.1 h1.2) (wf_small h2.1 h2.2) (wf_small h3.1 h3.2)
theorem mv_inj {a b : MonD} (h : mv a = mv b) : a = b := by
  cases a; cases b; simpa [mv] using h
theorem ml_inj {a b : MonD} (ha : monMay a = true) (hb : monMay b = true) (h : ml a = ml b) : a = b := by
  have h1 := keyOf_mv ha
  rw [h] at h1
  exact mv_inj (Tryz.keyed.inj h1 (keyOf_mv hb))
theorem ml_key {a : MonD} (ha : monMay a = true) : WideAt.IsKeyLit (ml a) := Tryz.keyed.key (keyOf_mv ha)

/-- an element reads as itself -/
def elR (v : Value) : Option (DataW Value × List MemPlace) := some (.held v, [])

/-- block g is a map that holds the terms al -/
structure MapIs (w : World) (b0 g n : Nat) (al : List TermD) (D : DataW Value) : Prop where
  own : w.ownsMap Tryz.prog 65 elR g n D
  good : GoodM al
  has : ∀ kl, Maps.has D kl = true ↔ ∃ t ∈ al, ml t.m = kl
  val : ∀ t ∈ al, ∃ v, (∀ zd, D.atKey (ml t.m) zd = .held v) ∧ RRat w b0 v t.c
section
variable {w w' : World} {b0 g n : Nat} {al bl : List TermD} {D : DataW Value}
theorem MapIs.up (h : MapIs w b0 g n al D) (hb : Below w.heap.size w w') : MapIs w' b0 g n al D :=
  ⟨h.own.kept ⟨hb.os, hb.tape, hb.output, hb.size, fun k hk _ => hb.block k hk⟩ (row := none) (by simp), h.good, h.has, fun t ht => let ⟨v, h1, h2⟩ := h.val t ht; ⟨v, h1, h2.up hb⟩⟩
theorem MapIs.made (w : World) (b0 : Nat) : MapIs (w.alloc (.map #[] 0)) b0 w.heap.size 0 [] (.map []) :=
  ⟨World.ownsMap_made w _ _ _, (fun _ h => by cases h), fun kl => by simp [Maps.has], fun _ h => by cases h⟩
theorem MapIs.hasM (h : MapIs w b0 g n al D) {m : MonD} (hm : monMay m = true) : Maps.has D (ml m) = Go.Proofs.YtidjbiopneoeeaaGreat.hasM al m := by
  rw [Bool.eq_iff_iff, h.has, hasM_iff]
  exact ⟨fun ⟨t, ht, e⟩ => ⟨t, ht, ml_inj (h.good t ht) hm e⟩, fun ⟨t, ht, e⟩ => ⟨t, ht, by rw [e]⟩⟩
/-- a map's block is no block of limbs -/
theorem MapIs.noRow (h : MapIs w b0 g n al D) (cs : Array Value) : ¬ Bk w g 106 cs := fun hb => by
  obtain ⟨es, clock, hg, _⟩ := h.own
  unfold Bk at hb
  rw [hg] at hb
  cases hb
theorem RRow.grown' {A : Option Addr} {l : List Int} {row : Option Nat} (h : RRow w b0 A l) (hg : w.grownBy w' row) (hr : ∀ g, row = some g → b0 ≤ g ∧ ∀ cs, ¬ Bk w g 106 cs) : RRow w' b0 A l := by
  have key : 0 < l.length → ∀ ad, A = some ad → some ad.block ≠ row := fun h0 ad e er => by
    obtain ⟨h1, h2⟩ := hr _ er.symm
    rcases h.2.2 h0 ad e with h4 | ⟨cs', h4⟩
    · omega
    · exact h2 cs' h4
  refine ⟨?_, h.2.1, fun h0 ad e => (h.2.2 h0 ad e).imp id fun ⟨cs, hk⟩ => ⟨cs, hk.grown hg (key h0 ad e)⟩⟩
  refine ⟨h.1.1, fun h0 => ?_⟩
  obtain ⟨ad, e, hb, hc⟩ := h.1.2 h0
  refine ⟨ad, e, Nat.lt_of_lt_of_le hb hg.size, fun j u hu => ?_⟩
  rw [← hc j u hu]
  exact World.cell?_of_block (hg.block _ (by rw [add_block]; exact hb) (by rw [add_block]; exact key h0 ad e))
theorem RRat.grown' {v : Value} {r : RatD} {row : Option Nat} (h : RRat w b0 v r) (hg : w.grownBy w' row) (hr : ∀ g, row = some g → b0 ≤ g ∧ ∀ cs, ¬ Bk w g 106 cs) : RRat w' b0 v r :=
  let ⟨A, c, B, d, e, h1, h2, h3, h4⟩ := h; ⟨A, c, B, d, e, h1, h2, h3.grown' hg hr, h4.grown' hg hr⟩
/-- a store into another block of the call's own keeps it -/
theorem MapIs.set (h : MapIs w b0 g n al D) {g' : Nat} {t : TypeId} {cs : Array Value} (hk : Bk w g' t cs) (ht : t ≠ 106) (hb : b0 ≤ g') {p : Addr} (hp : p.block = g') (u : Value) : MapIs (w.setCell p u) b0 g n al D := by
  subst hp
  refine ⟨h.own.kept (set_grown w p u) ?_, h.good, h.has, fun t' ht' => let ⟨v, h1, h2⟩ := h.val t' ht'; ⟨v, h1, h2.grown (set_grown w p u) fun g' e => by injection e with e; subst e; exact ⟨hb, t, cs, hk, ht⟩⟩⟩
  intro e
  injection e with e
  obtain ⟨es, clock, hg, _⟩ := h.own
  unfold Bk at hk
  rw [← e, hg] at hk
  cases hk
/-- a store of an element -/
theorem MapIs.put (h : MapIs w b0 g n al D) (hb0 : b0 ≤ g) {t : TermD} {v : Value} (hm : monMay t.m = true) (hv : RRat w b0 v t.c) (hbl : ∀ s, s ∈ bl ↔ s = t ∨ (s ∈ al ∧ s.m ≠ t.m))
    (hown : w'.ownsMap Tryz.prog 65 elR g (n + 1) (D.put (ml t.m) (.held v))) (hg : w.grownBy w' (some g)) : MapIs w' b0 g (n + 1) bl (D.put (ml t.m) (.held v)) := by
  have hD := h.own.isMap
  have hr : ∀ g', some g = some g' → b0 ≤ g' ∧ ∀ cs, ¬ Bk w g' 106 cs := fun g' e => by injection e with e; subst e; exact ⟨hb0, h.noRow⟩
  refine ⟨hown, fun s hs => ?_, fun kl => ?_, fun s hs => ?_⟩
  · rcases (hbl s).1 hs with rfl | ⟨hs, _⟩
    · exact hm
    · exact h.good s hs
  · by_cases e : kl = ml t.m
    · subst e
      rw [has_put_same hD (ml_key hm)]
      exact ⟨fun _ => ⟨t, (hbl t).2 (.inl rfl), rfl⟩, fun _ => rfl⟩
    · rw [has_put_other e, h.has]
      constructor
      · rintro ⟨s, hs, rfl⟩
        exact ⟨s, (hbl s).2 (.inr ⟨hs, fun e' => e (by rw [e'])⟩), rfl⟩
      · rintro ⟨s, hs, rfl⟩
        rcases (hbl s).1 hs with rfl | ⟨hs, _⟩
        · exact absurd rfl e
        · exact ⟨s, hs, rfl⟩
  · rcases (hbl s).1 hs with rfl | ⟨hs, hne⟩
    · exact ⟨v, fun zd => atKey_put_same hD (ml_key hm) _ _, hv.grown' hg hr⟩
    · obtain ⟨u, h1, h2⟩ := h.val s hs
      exact ⟨u, fun zd => by rw [atKey_put_other (fun e => hne (ml_inj (h.good s hs) hm e))]; exact h1 zd, h2.grown' hg hr⟩
end

theorem makeD_short {neg : Bool} {l m : List Int} (hu : U64 l) (hu' : U64 m) : (makeD neg l m).2.short := by
  unfold makeD
  by_cases h1 : (natMay l && natMay m) = false
  · rw [if_pos h1]; exact ⟨by simp [zeroD], by simp [zeroD]⟩
  · rw [if_neg h1]
    by_cases h2 : m.length = 0
    · rw [if_pos h2]; exact ⟨by simp [zeroD], by simp [zeroD]⟩
    · rw [if_neg h2]
      have h3 : natMay l = true ∧ natMay m = true := by simpa using h1
      have e1 := natMay_len h3.1
      have e2 := natMay_len h3.2
      have f1 := limbs_len.2 (Nat.lt_of_le_of_lt (Nat.div_le_self (val l) (Nat.gcd (val l) (val m))) (val_lt hu))
      have f2 := limbs_len.2 (Nat.lt_of_le_of_lt (Nat.div_le_self (val m) (Nat.gcd (val l) (val m))) (val_lt hu'))
      exact ⟨by show (limbs _).length ≤ _; omega, by show (limbs _).length ≤ _; omega⟩
theorem zeroD_short : zeroD.short := ⟨by simp [zeroD], by simp [zeroD]⟩
theorem addD_short (r s : RatD) : (addD r s).2.short := by
  unfold addD
  split
  · exact zeroD_short
  · split
    · exact zeroD_short
    · exact makeD_short (limbs_u64 _) (limbs_u64 _)
theorem mulD_short (r s : RatD) : (mulD r s).2.short := by
  unfold mulD
  split
  · exact zeroD_short
  · split
    · exact zeroD_short
    · exact makeD_short (limbs_u64 _) (limbs_u64 _)
end Go.Proofs.YtidjbiopneoeeaaGreat
