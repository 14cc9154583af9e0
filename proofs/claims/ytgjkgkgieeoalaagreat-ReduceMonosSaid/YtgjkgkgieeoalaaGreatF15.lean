/- Parts of the proof, joined: each theorem says what it shows. -/
import Derived.Test.YtgjkgkgieeoalaaGreatF01
import Derived.Test.YtgjkgkgieeoalaaGreatF13
import Derived.Test.YtgjkgkgieeoalaaGreatF03
import Derived.WideKeyPair
import Derived.Maps.OwnSet
import Derived.Maps.RangeWalk
import Derived.Deep.LoopGhost
set_option linter.unusedVariables false
set_option linter.unusedSimpArgs false
set_option maxHeartbeats 24000000
set_option maxRecDepth 100000
namespace Go.Proofs.YtgjkgkgieeoalaaGreat
open Go.RowKit Go.Maps Go.WideMaps
theorem Tryz.arK : ArrKey Tryz.prog 66 3 4 := ⟨Tryz.underlying66, by kernel_rfl, by kernel_rfl, by kernel_rfl⟩
theorem Tryz.szs : ∃ m, Tryz.prog.types.size = m + 1 := ⟨Tryz.prog.types.size - 1, by kernel_rfl⟩
theorem Tryz.keyed : Keyed Tryz.prog 66 := Keyed.of_law Tryz.arK.law
theorem Tryz.mapT : Tryz.prog.underlying 261 = some (.map 66 64) := by kernel_rfl
theorem Tryz.zRat (w : World) : (zeroValue 64).run Tryz.prog w = .ok (.agg #[.bool false, .slice none 0 0, .slice none 0 0]) w := by kernel_rfl
theorem keyOf_four {P : Program} {k e : TypeId} {q : IntKind} (A : ArrKey P k e 4) (he : P.underlying e = some (.int q)) (hsz : ∃ m, P.types.size = m + 1) {a b c d : Int} (wa : (Lit.int q a).wf = true) (wb : (Lit.int q b).wf = true) (wc : (Lit.int q c).wf = true) (wd : (Lit.int q d).wf = true) :
    keyOf P k (.agg #[.int q a, .int q b, .int q c, .int q d]) = some (.string (keyBytes [.int q a, .int q b, .int q c, .int q d])) := by
 have hkt := A.keyType hsz
 obtain ⟨m, hm⟩ := hsz
 unfold keyOf
 simp only [A.hu]
 rw [if_pos (by simp [hkt, Value.formed, A.hu, A.size]), hm]
 unfold Program.keyLits
 simp only [A.hu, Value.cells]
 rw [if_pos (by rw [A.size]; rfl), show List.range 4 = [0, 1, 2, 3] from rfl, List.mapM_cons, List.mapM_cons, List.mapM_cons, List.mapM_cons, List.mapM_nil]
 simp [A.one, Program.keyLits, he, wa, wb, wc, wd]
def mv (m : MonD) : Value := .agg #[.int .i64 m.x0, .int .i64 m.x1, .int .i64 m.x2, .int .i64 m.x3]
def ml (m : MonD) : Lit := .string (keyBytes [.int .i64 m.x0, .int .i64 m.x1, .int .i64 m.x2, .int .i64 m.x3])
theorem wf_small {x : Int} (h0 : 0 ≤ x) (h1 : x ≤ 40) : (Lit.int .i64 x).wf = true := by
 simp [Lit.wf]
 constructor
 ·show (-9223372036854775808 : Int) ≤ x; omega
 ·omega
theorem keyOf_mv {m : MonD} (h : monMay m = true) : keyOf Tryz.prog 66 (mv m) = some (ml m) := by
 obtain ⟨h0, h1, h2, h3⟩ := monMay_of h
 exact keyOf_four Tryz.arK Tryz.underlying3 Tryz.szs (wf_small h0.1 h0.2) (wf_small h1.1 h1.2) (wf_small h2.1 h2.2) (wf_small h3.1 h3.2)
theorem mv_inj {a b : MonD} (h : mv a = mv b) : a = b := by
 cases a; cases b; simpa [mv] using h
theorem ml_inj {a b : MonD} (ha : monMay a = true) (hb : monMay b = true) (h : ml a = ml b) : a = b := by
 have h1 := keyOf_mv ha
 rw [h] at h1
 exact mv_inj (Tryz.keyed.inj h1 (keyOf_mv hb))
theorem ml_key {a : MonD} (ha : monMay a = true) : WideAt.IsKeyLit (ml a) := Tryz.keyed.key (keyOf_mv ha)
def elR (v : Value) : Option (DataW Value × List MemPlace) := some (.held v, [])
structure MapIs (w : World) (b0 g n : Nat) (al : List TermD) (D : DataW Value) : Prop where
 own : w.ownsMap Tryz.prog 66 elR g n D
 good : GoodM al
 has : ∀ kl, Maps.has D kl = true ↔ ∃ t ∈ al, ml t.m = kl
 val : ∀ t ∈ al, ∃ v, (∀ zd, D.atKey (ml t.m) zd = .held v) ∧ RRat w b0 v t.c
section
variable {w w' : World} {b0 g n : Nat} {al bl : List TermD} {D : DataW Value}
theorem MapIs.up (h : MapIs w b0 g n al D) (hb : Below w.heap.size w w') : MapIs w' b0 g n al D :=
 ⟨h.own.kept ⟨hb.os, hb.tape, hb.output, hb.size, fun k hk _ => hb.block k hk⟩ (row := none) (by simp), h.good, h.has, fun t ht => let ⟨v, h1, h2⟩ := h.val t ht; ⟨v, h1, h2.up hb⟩⟩
theorem MapIs.made (w : World) (b0 : Nat) : MapIs (w.alloc (.map #[] 0)) b0 w.heap.size 0 [] (.map []) :=
 ⟨World.ownsMap_made w _ _ _, (fun _ h => by cases h), fun kl => by simp [Maps.has], fun _ h => by cases h⟩
theorem MapIs.hasM (h : MapIs w b0 g n al D) {m : MonD} (hm : monMay m = true) : Maps.has D (ml m) = Go.Proofs.YtgjkgkgieeoalaaGreat.hasM al m := by
 rw [Bool.eq_iff_iff, h.has, hasM_iff]
 exact ⟨fun ⟨t, ht, e⟩ => ⟨t, ht, ml_inj (h.good t ht) hm e⟩, fun ⟨t, ht, e⟩ => ⟨t, ht, by rw [e]⟩⟩
theorem MapIs.noRow (h : MapIs w b0 g n al D) (cs : Array Value) : ¬ Bk w g 112 cs := fun hb => by
 obtain ⟨es, clock, hg, _⟩ := h.own
 unfold Bk at hb
 rw [hg] at hb
 cases hb
theorem RRow.grown' {A : Option Addr} {l : List Int} {row : Option Nat} (h : RRow w b0 A l) (hg : w.grownBy w' row) (hr : ∀ g, row = some g → b0 ≤ g ∧ ∀ cs, ¬ Bk w g 112 cs) : RRow w' b0 A l := by
 have key : 0 < l.length → ∀ ad, A = some ad → some ad.block ≠ row := fun h0 ad e er => by
  obtain ⟨h1, h2⟩ := hr _ er.symm
  rcases h.2.2 h0 ad e with h4 | ⟨cs', h4⟩
  ·omega
  ·exact h2 cs' h4
 refine ⟨?_, h.2.1, fun h0 ad e => (h.2.2 h0 ad e).imp id fun ⟨cs, hk⟩ => ⟨cs, hk.grown hg (key h0 ad e)⟩⟩
 refine ⟨h.1.1, fun h0 => ?_⟩
 obtain ⟨ad, e, hb, hc⟩ := h.1.2 h0
 refine ⟨ad, e, Nat.lt_of_lt_of_le hb hg.size, fun j u hu => ?_⟩
 rw [← hc j u hu]
 exact World.cell?_of_block (hg.block _ (by rw [add_block]; exact hb) (by rw [add_block]; exact key h0 ad e))
theorem RRat.grown' {v : Value} {r : RatD} {row : Option Nat} (h : RRat w b0 v r) (hg : w.grownBy w' row) (hr : ∀ g, row = some g → b0 ≤ g ∧ ∀ cs, ¬ Bk w g 112 cs) : RRat w' b0 v r :=
 let ⟨A, c, B, d, e, h1, h2, h3, h4⟩ := h; ⟨A, c, B, d, e, h1, h2, h3.grown' hg hr, h4.grown' hg hr⟩
theorem MapIs.set (h : MapIs w b0 g n al D) {g' : Nat} {t : TypeId} {cs : Array Value} (hk : Bk w g' t cs) (ht : t ≠ 112) (hb : b0 ≤ g') {p : Addr} (hp : p.block = g') (u : Value) : MapIs (w.setCell p u) b0 g n al D := by
 subst hp
 refine ⟨h.own.kept (set_grown w p u) ?_, h.good, h.has, fun t' ht' => let ⟨v, h1, h2⟩ := h.val t' ht'; ⟨v, h1, h2.grown (set_grown w p u) fun g' e => by injection e with e; subst e; exact ⟨hb, t, cs, hk, ht⟩⟩⟩
 intro e
 injection e with e
 obtain ⟨es, clock, hg, _⟩ := h.own
 unfold Bk at hk
 rw [← e, hg] at hk
 cases hk
theorem MapIs.put (h : MapIs w b0 g n al D) (hb0 : b0 ≤ g) {t : TermD} {v : Value} (hm : monMay t.m = true) (hv : RRat w b0 v t.c) (hbl : ∀ s, s ∈ bl ↔ s = t ∨ (s ∈ al ∧ s.m ≠ t.m))
    (hown : w'.ownsMap Tryz.prog 66 elR g (n + 1) (D.put (ml t.m) (.held v))) (hg : w.grownBy w' (some g)) : MapIs w' b0 g (n + 1) bl (D.put (ml t.m) (.held v)) := by
 have hD := h.own.isMap
 have hr : ∀ g', some g = some g' → b0 ≤ g' ∧ ∀ cs, ¬ Bk w g' 112 cs := fun g' e => by injection e with e; subst e; exact ⟨hb0, h.noRow⟩
 refine ⟨hown, fun s hs => ?_, fun kl => ?_, fun s hs => ?_⟩
 ·rcases (hbl s).1 hs with rfl | ⟨hs, _⟩
  ·exact hm
  ·exact h.good s hs
 ·by_cases e : kl = ml t.m
  ·subst e
   rw [has_put_same hD (ml_key hm)]
   exact ⟨fun _ => ⟨t, (hbl t).2 (.inl rfl), rfl⟩, fun _ => rfl⟩
  ·rw [has_put_other e, h.has]
   constructor
   ·rintro ⟨s, hs, rfl⟩
    exact ⟨s, (hbl s).2 (.inr ⟨hs, fun e' => e (by rw [e'])⟩), rfl⟩
   ·rintro ⟨s, hs, rfl⟩
    rcases (hbl s).1 hs with rfl | ⟨hs, _⟩
    ·exact absurd rfl e
    ·exact ⟨s, hs, rfl⟩
 ·rcases (hbl s).1 hs with rfl | ⟨hs, hne⟩
  ·exact ⟨v, fun zd => atKey_put_same hD (ml_key hm) _ _, hv.grown' hg hr⟩
  ·obtain ⟨u, h1, h2⟩ := h.val s hs
   exact ⟨u, fun zd => by rw [atKey_put_other (fun e => hne (ml_inj (h.good s hs) hm e))]; exact h1 zd, h2.grown' hg hr⟩
end
theorem makeD_short {neg : Bool} {l m : List Int} (hu : U64 l) (hu' : U64 m) : (makeD neg l m).2.short := by
 unfold makeD
 by_cases h1 : (natMay l && natMay m) = false
 ·rw [if_pos h1]; exact ⟨by simp [zeroD], by simp [zeroD]⟩
 ·rw [if_neg h1]
  by_cases h2 : m.length = 0
  ·rw [if_pos h2]; exact ⟨by simp [zeroD], by simp [zeroD]⟩
  ·rw [if_neg h2]
   have h3 : natMay l = true ∧ natMay m = true := by simpa using h1
   have e1 := natMay_len h3.1
   have e2 := natMay_len h3.2
   have f1 := limbs_len.2 (Nat.lt_of_le_of_lt (Nat.div_le_self (val l) (Nat.gcd (val l) (val m))) (val_lt hu))
   have f2 := limbs_len.2 (Nat.lt_of_le_of_lt (Nat.div_le_self (val m) (Nat.gcd (val l) (val m))) (val_lt hu'))
   exact ⟨by show (limbs _).length ≤ _; omega, by show (limbs _).length ≤ _; omega⟩
theorem zeroD_short : zeroD.short := ⟨by simp [zeroD], by simp [zeroD]⟩
theorem addD_short (r s : RatD) : (addD r s).2.short := by
 unfold addD
 split
 ·exact zeroD_short
 ·split
  ·exact zeroD_short
  ·exact makeD_short (limbs_u64 _) (limbs_u64 _)
theorem mulD_short (r s : RatD) : (mulD r s).2.short := by
 unfold mulD
 split
 ·exact zeroD_short
 ·split
  ·exact zeroD_short
  ·exact makeD_short (limbs_u64 _) (limbs_u64 _)
end Go.Proofs.YtgjkgkgieeoalaaGreat
namespace Go.Proofs.YtgjkgkgieeoalaaGreat
open Go.RowKit
open Go.Sort hiding Below
structure Cell where
 A : Option Addr
 c : Nat
 B : Option Addr
 d : Nat
 t : TermD
 hm : monMay t.m = true
instance : Inhabited Cell := ⟨⟨none, 0, none, 0, ⟨zeroD, zeroM⟩, by decide⟩⟩
def encC (x : Cell) : List Value := [.bool x.t.c.neg, .slice x.A x.t.c.num.length x.c, .slice x.B x.t.c.den.length x.d, .int .i64 x.t.m.x0, .int .i64 x.t.m.x1, .int .i64 x.t.m.x2, .int .i64 x.t.m.x3]
def cfC (o : Int) (x y : Cell) : Int := monCmp o y.t.m x.t.m
theorem encC_len (x : Cell) : (encC x).length = 7 := rfl
theorem encC_one (x : Cell) : ∀ u ∈ encC x, u.oneCell' = true := by
 intro u hu
 simp [encC] at hu
 rcases hu with rfl | rfl | rfl | rfl | rfl | rfl | rfl <;> rfl
theorem swoC {o : Int} (ho : oOk o) : SWO (ltOf (cfC o)) where
 irrefl x := decide_eq_false (by rw [show cfC o x x = 0 from (monCmp_zero ho x.hm x.hm).2 rfl]; omega)
 trans x y z h1 h2 := decide_eq_true (monCmp_lt ho z.hm y.hm x.hm (of_decide_eq_true h2) (of_decide_eq_true h1))
 ntrans x y z h1 h2 := by
  have g1 : ¬ monCmp o y.t.m x.t.m < 0 := of_decide_eq_false h1
  have g2 : ¬ monCmp o z.t.m y.t.m < 0 := of_decide_eq_false h2
  refine decide_eq_false ?_
  show ¬ monCmp o z.t.m x.t.m < 0
  have e1 := monCmp_anti ho x.hm y.hm
  have e2 := monCmp_anti ho y.hm z.hm
  have e3 := monCmp_anti ho x.hm z.hm
  have := monCmp_le ho x.hm y.hm z.hm (by omega) (by omega)
  omega
theorem Blw.grows {w w' : World} (h : Blw w.heap.size w w') : ∃ q os, w' = grow (w.drewN q) os := by
 obtain ⟨⟨h1, h2, h3, h4, h5⟩, h6⟩ := h
 refine ⟨w'.drawn - w.drawn, w'.heap.extract w.heap.size w'.heap.size, ?_⟩
 cases w with
 | mk heap tape drawn os output =>
   cases w' with
   | mk heap' tape' drawn' os' output' =>
     simp only at h1 h2 h3 h4 h5 h6
     subst h1 h2 h3
     simp only [grow, World.drewN, World.mk.injEq, true_and, and_true]
     refine ⟨?_, by omega⟩
     apply Array.ext_getElem?
     intro i
     rcases Nat.lt_or_ge i heap.size with hi | hi
     ·rw [Array.getElem?_append_left hi]; exact h5 i hi
     ·rw [Array.getElem?_append_right hi, Array.getElem?_extract]
      rcases Nat.lt_or_ge i heap'.size with hj | hj
      ·rw [if_pos (by omega)]; congr 1; omega
      ·rw [if_neg (by omega), Array.getElem?_eq_none hj]
theorem sort_grown {w : World} {blk off n : Nat} {d : Array Cell} {os : Array Obj} : w.grownBy (sortWorldK encC 7 w blk off n d os) (some blk) := by
 refine ⟨rfl, rfl, rfl, ?_, fun k hk hne => ?_⟩
 ·simp [sortWorldK, grow, putRowK, putRow, mapBlock, ahead]
 ·simp only [sortWorldK, grow, putRowK, putRow, mapBlock, ahead]
  rw [Array.getElem?_append_left (by simpa using hk), Array.getElem?_modify, if_neg (fun e => hne (by rw [e]))]
  rfl
theorem flat_get : ∀ (cs : List Cell) (j : Nat), (cs.flatMap encC)[j]? = (cs[j / 7]?).bind fun x => (encC x)[j % 7]?
 | [], j => by simp
 | x :: cs, j => by
   rw [List.flatMap_cons]
   rcases Nat.lt_or_ge j 7 with h | h
   ·rw [List.getElem?_append_left (by rw [encC_len]; exact h), Nat.div_eq_of_lt h, Nat.mod_eq_of_lt h]; rfl
   ·rw [List.getElem?_append_right (by rw [encC_len]; exact h), encC_len, flat_get cs, show j / 7 = (j - 7) / 7 + 1 by omega, show j % 7 = (j - 7) % 7 by omega]; rfl
theorem flat_len (cs : List Cell) : (cs.flatMap encC).length = cs.length * 7 := by
 induction cs with
 | nil => rfl
 | cons x cs ih => rw [List.flatMap_cons, List.length_append, ih, encC_len, List.length_cons]; omega
theorem own_holds {w : World} {base g n cap : Nat} {cs : List Cell} (h : w.ownsRow base 68 7 (.slice (some ⟨g, 0, none⟩) n cap) n (cs.flatMap encC)) (hn : cs.length = n) : HoldsK encC 7 w g 0 cs.toArray ∧ g < w.heap.size ∧ base ≤ g := by
 rcases h.2 with ⟨e, _⟩ | ⟨g', cap', cur, e, h2, h3, h4, h5, h6, h7⟩
 ·cases e
 ·injection e with e1 e2 e3
  injection e1 with e1
  injection e1 with e1
  subst e1
  have hgl : g < w.heap.size := by
   rcases Nat.lt_or_ge g w.heap.size with h | h
   ·exact h
   ·rw [Array.getElem?_eq_none h] at h3; cases h3
  refine ⟨fun j hj => ?_, hgl, h2⟩
  rw [Nat.zero_add]
  simp only [size_flatK, List.size_toArray] at hj
  have hj2 : j < (cs.flatMap encC).length := by rw [flat_len]; exact hj
  have e1 : cur[j]? = (cs.flatMap encC)[j]? := by
   rw [← h7, List.getElem?_take]
   rw [if_pos (by omega)]
   simp
  refine ⟨?_, by simp [World.frozen?, h3]⟩
  have e2 : w.cell? ⟨g, j, none⟩ = cur[j]? := by simp [World.cell?, h3]
  rw [e2, e1, flat_get]
  have e3 : j / 7 < cs.length := by omega
  have e4 : j % 7 < (encC cs[j / 7]).length := by rw [encC_len]; omega
  rw [get_flatK encC 7 cs.toArray j (by simpa using hj), ai e3]
  simp [e3, ai e4, getElem!_pos, e4]
theorem holds_rd {w : World} {g : Nat} {cs : List Cell} (h : HoldsK encC 7 w g 0 cs.toArray) (hg : g < w.heap.size) : Rd w w.heap.size 7 (some ⟨g, 0, none⟩) cs.length (cs.flatMap encC) := by
 refine ⟨flat_len cs, fun _ => ⟨_, rfl, hg, fun j u hu => ?_⟩⟩
 have hj : j < (cs.flatMap encC).length := by
  rcases Nat.lt_or_ge j (cs.flatMap encC).length with h | h
  ·exact h
  ·rw [List.getElem?_eq_none h] at hu; cases hu
 have hj' : j < cs.length * 7 := by rw [← flat_len]; exact hj
 have h1 := (h j (by simpa using hj')).1
 rw [add_win, h1, ← hu, flat_get]
 have e3 : j / 7 < cs.length := by omega
 have e4 : j % 7 < (encC cs[j / 7]).length := by rw [encC_len]; omega
 rw [Nat.zero_add] at *
 rw [show (id (flatK encC 7 cs.toArray)[j]! : Value) = (flatK encC 7 cs.toArray)[j]! from rfl, get_flatK encC 7 cs.toArray j (by simpa using hj'), ai e3]
 simp [e3, ai e4, getElem!_pos, e4]
theorem nodup_fall {o : Int} (ho : oOk o) {cs : List Cell} {d' : Array Cell} (hnd : (cs.map (·.t.m)).Nodup) (hp : PermIn 0 cs.toArray.size cs.toArray d') (hs : SortedIn (ltOf (cfC o)) 0 cs.toArray.size d') :
    d'.toList.Perm cs ∧ Fall o (d'.toList.map (·.t)) := by
 obtain ⟨h1, _, h3⟩ := hp
 have hperm : d'.toList.Perm cs := by
  have e1 : d'.extract 0 cs.toArray.size = d' := by rw [← h1]; simp
  rw [e1] at h3
  simpa using h3
 refine ⟨hperm, ?_⟩
 have hnd' : (d'.toList.map (·.t.m)).Nodup := ((hperm.map _).nodup_iff).2 hnd
 unfold Fall
 rw [List.pairwise_map, List.pairwise_iff_getElem]
 intro i j hi hj hij
 have hj2 : j < d'.size := by simpa using hj
 have hi2 : i < d'.size := by simpa using hi
 have h4 := hs i j (Nat.zero_le _) hij (by rw [← h1]; exact hj2)
 rw [getElem!_pos d' j hj2, getElem!_pos d' i hi2] at h4
 have h5 : ¬ monCmp o d'[i].t.m d'[j].t.m < 0 := of_decide_eq_false h4
 have h6 : d'[i].t.m ≠ d'[j].t.m := by
  have := List.pairwise_iff_getElem.1 hnd' i j (by simpa using hi2) (by simpa using hj2) hij
  simpa using this
 have h7 := (not_congr (monCmp_zero ho d'[i].hm d'[j].hm)).2 h6
 simp only [Array.getElem_toList]
 omega
theorem sort_terms (o : Int) (ho : oOk o) (g gb cap : Nat) (cs : List Cell) (w : World) (hH : HoldsK encC 7 w g 0 cs.toArray) (hg : g < w.heap.size) (hgb : w.cell? ⟨gb, 0, none⟩ = some (.int .i64 o)) (hne : gb ≠ g) (hn : cs.length ≤ 1000000000) (hnd : (cs.map (·.t.m)).Nodup) :
    Calls Tryz.prog 238 #[.slice (some ⟨g, 0, none⟩) cs.length cap, .func (.func 239) #[] #[.pointer (some ⟨gb, 0, none⟩)]] w fun e w' =>
     e = .returned (.tuple #[]) ∧ ∃ ds : List Cell, ds.Perm cs ∧ Fall o (ds.map (·.t)) ∧ w.grownBy w' (some g) ∧ HoldsK encC 7 w' g 0 ds.toArray := by
 have hcmp : CmpLays Tryz.prog 239 #[.pointer (some ⟨gb, 0, none⟩)] encC 7 (cfC o) g 0 cs.toArray.size w := fun m os dk hs x y => by
  have hc : (sortWorldK encC 7 w g 0 m dk os).cell? ⟨gb, 0, none⟩ = some (.int .i64 o) := by
   rw [← hgb]
   exact World.cell?_of_block (sort_grown.block gb (World.block_lt_of_cell? w _ hgb) (fun e => hne (by injection e)))
  exact (Make_2 gb o x.t y.t x.A x.B y.A y.B x.c x.d y.c y.d _ hc).mono fun e w' ⟨he, hb⟩ => ⟨he, hb.grows⟩
 have hlim : Lib.bitLen cs.toArray.size < 4611686018427387904 := Nat.lt_of_le_of_lt (Lib.bitLen_le cs.toArray.size 62 (by simp) (by rw [List.size_toArray]; omega)) (by omega)
 have hp := Tryz.pdqsortCmpFunc_all 7 Tryz.isAgg68 Tryz.sizeOf68 encC (cfC o) 239 #[.pointer (some ⟨gb, 0, none⟩)] (swoC ho) g 0 cap cs.toArray w (enters_of Tryz.func239 (by kernel_rfl) rfl) hcmp ⟨encC_len, encC_one, hH, hg⟩
  (cs.toArray.size + 1) 0 cs.toArray.size (Lib.bitLen cs.toArray.size) cs.toArray w (by omega) rfl (SWK.start hH) (Nat.zero_le _) (ae _) (by simp; omega) hlim (Or.inl rfl)
 have hl := Tryz.bits_Len (cs.length : Int) w (by omega) (by omega)
 rw [Int.toNat_natCast] at hl
 have HS := aa (pdq_sorts (ltOf (cfC o)) (swoC ho) cs.toArray 0 cs.toArray.size (Lib.bitLen cs.toArray.size) true true (Nat.zero_le _) (ae _) (Or.inl rfl))
 rw [List.size_toArray] at hp HS
 obtain ⟨L, hL⟩ : ∃ L, Lib.bitLen cs.length = L := ⟨_, rfl⟩
 rw [hL] at hp hl HS
 obtain ⟨D, hD⟩ : ∃ D, pdq (ltOf (cfC o)) cs.toArray 0 cs.length L true true = D := ⟨_, rfl⟩
 rw [hD] at hp HS
 have HP := aa hp
 have HL := aa hl
 have HH := aa hH
 have HN := aa hnd
 clear hp hl hL hD hcmp hH hlim hgb hnd
 have wr : IntKind.u64.wrap (cs.length : Int) = cs.length := by simp [IntKind.wrap, IntKind.bits, IntKind.signed]; omega
 go_enter Tryz.func238, Tryz.ntmps238
 go_wp2_with fail
 refine HL.out.mono ?_
 rintro e w' ⟨rfl, rfl⟩
 go_wp2_with fail
 refine HP.out.mono ?_
 rintro e w2 ⟨rfl, n, os, rfl⟩
 go_wp2_with fail
 go_end0
 rw [List.size_toArray] at *
 obtain ⟨h1, h2⟩ := nodup_fall ho HN.out (by rw [List.size_toArray]; exact HS.out.1) (by rw [List.size_toArray]; exact HS.out.2)
 refine ⟨rfl, D.toList, h1, h2, sort_grown, ?_⟩
 have := holdsK_sortWorldK encC 7 w' g 0 n cs.toArray D os hg HH.out (by rw [List.size_toArray]; exact HS.out.1.1)
 simpa using this
end Go.Proofs.YtgjkgkgieeoalaaGreat
namespace Go.Proofs.YtgjkgkgieeoalaaGreat
open Go.RowKit Go.Maps
def zRatV : Value := .agg #[.bool false, .slice none 0 0, .slice none 0 0]
structure Mk (b0 g gb : Nat) (order : Int) (w0 w : World) (n : Nat) (al : List TermD) (D : DataW Value) : Prop where
 below : Below w0.heap.size w0 w
 box : Bk w gb 3 #[.int .i64 order]
 s1 : w0.heap.size ≤ g
 s2 : w0.heap.size ≤ gb
 ne : gb ≠ g
 map : MapIs w b0 g n al D
 sta : Sta order al
 short : ∀ t ∈ al, t.c.short
section
variable {b0 g gb n : Nat} {order : Int} {w0 w w' : World} {al bl : List TermD} {D : DataW Value}
theorem Mk.up (h : Mk b0 g gb order w0 w n al D) (hb : Below w.heap.size w w') : Mk b0 g gb order w0 w' n al D :=
 ⟨h.below.trans (hb.mono h.below.size), h.box.up hb, h.s1, h.s2, h.ne, h.map.up hb, h.sta, h.short⟩
theorem Mk.put (h : Mk b0 g gb order w0 w n al D) (hb0 : b0 ≤ w0.heap.size) {t : TermD} {v : Value} (hm : monMay t.m = true) (hv : RRat w b0 v t.c) (hbl : ∀ s, s ∈ bl ↔ s = t ∨ (s ∈ al ∧ s.m ≠ t.m))
    (hown : w'.ownsMap Tryz.prog 66 elR g (n + 1) (D.put (ml t.m) (.held v))) (hg : w.mapTurned w' g) (hst : Sta order bl) (hsh : t.c.short) : Mk b0 g gb order w0 w' (n + 1) bl (D.put (ml t.m) (.held v)) :=
 ⟨h.below.grown hg.grown h.below.size (fun k hk => by injection hk with hk; subst hk; exact h.s1), h.box.grown hg.grown (fun e => h.ne (by injection e)), h.s1, h.s2, h.ne, h.map.put (ah hb0 h.s1) hm hv hbl hown hg.grown, hst,
  fun s hs => by
   rcases (hbl s).1 hs with rfl | ⟨hs, _⟩
   ·exact hsh
   ·exact h.short s hs⟩
theorem Mk.set (h : Mk b0 g gb order w0 w n al D) (hb0 : b0 ≤ w0.heap.size) {g' : Nat} {t : TypeId} {cs : Array Value} (hk : Bk w g' t cs) (ht : t ≠ 112) (hb : w0.heap.size ≤ g') (hne : gb ≠ g') (i : Nat) (u : Value) : Mk b0 g gb order w0 (w.setCell ⟨g', i, none⟩ u) n al D :=
 ⟨h.below.setCell hb u, h.box.far hne u, h.s1, h.s2, h.ne, h.map.set hk ht (ah hb0 hb) rfl u, h.sta, h.short⟩
theorem Mk.set3 (h : Mk b0 g gb order w0 w n al D) (hb0 : b0 ≤ w0.heap.size) {g' : Nat} {a b c : Value} (hk : Bk w g' 64 #[a, b, c]) (hb : w0.heap.size ≤ g') (hne : gb ≠ g') (x y z : Value) :
    Mk b0 g gb order w0 (((w.setCell ⟨g', 0, none⟩ x).setCell ⟨g', 1, none⟩ y).setCell ⟨g', 2, none⟩ z) n al D :=
 ((h.set hb0 hk (by decide) hb hne 0 x).set hb0 (hk.set_ 0 x) (by decide) hb hne 1 y).set hb0 ((hk.set_ 0 x).set_ 1 y) (by decide) hb hne 2 z
end
theorem RRat.set3 {w : World} {b0 g : Nat} {a b c v : Value} {r : RatD} (h : RRat w b0 v r) (hk : Bk w g 64 #[a, b, c]) (hb : b0 ≤ g) (x y z : Value) : RRat (((w.setCell ⟨g, 0, none⟩ x).setCell ⟨g, 1, none⟩ y).setCell ⟨g, 2, none⟩ z) b0 v r :=
 h.grown (((set_grown w ⟨g, 0, none⟩ x).set _ _).set _ _) (fun g' e => by injection e with e; subst e; exact ⟨hb, _, _, hk, by decide⟩)
theorem own_bk {w : World} {base gp : Nat} {e : TypeId} {sz n : Nat} {v : Value} {xs : List Value} (h : w.ownsRow base e sz v n xs) (hb : v.ownBlock = some gp) : (∃ cs, Bk w gp e cs) ∧ base ≤ gp := by
 rcases h.2 with ⟨rfl, _⟩ | ⟨g', cap, cur, rfl, h2, h3, r⟩
 ·simp [Value.ownBlock] at hb
 ·have : g' = gp := by simpa [Value.ownBlock] using hb
  subst this
  exact ⟨⟨_, h3⟩, h2⟩
theorem own_form {w : World} {base gp : Nat} {e : TypeId} {sz n : Nat} {v : Value} {xs : List Value} (h : w.ownsRow base e sz v n xs) (hb : v.ownBlock = some gp) : ∃ cap, v = .slice (some ⟨gp, 0, none⟩) n cap ∧ n ≤ cap ∧ cap ≤ maxLen := by
 rcases h.2 with ⟨rfl, _⟩ | ⟨g', cap, cur, rfl, h2, h3, h4, h5, _⟩
 ·simp [Value.ownBlock] at hb
 ·have : g' = gp := by simpa [Value.ownBlock] using hb
  subst this
  exact ⟨_, rfl, h4, h5⟩
theorem TC.grown' {w w' : World} {b0 : Nat} {t : TermD} {cs : List Value} {row : Option Nat} (h : TC w b0 t cs) (hg : w.grownBy w' row) (hr : ∀ g, row = some g → b0 ≤ g ∧ ∀ cs, ¬ Bk w g 112 cs) : TC w' b0 t cs :=
 let ⟨A, c, B, d, e, h1, h2, h3, h4⟩ := h; ⟨A, c, B, d, e, h1, h2, h3.grown' hg hr, h4.grown' hg hr⟩
theorem not_limbs {w : World} {g : Nat} {t : TypeId} {cs : Array Value} (h : Bk w g t cs) (ht : t ≠ 112) (ds : Array Value) : ¬ Bk w g 112 ds := fun h' => Bk.ne_ h h' ht rfl
theorem MapIs.grown {w w' : World} {b0 g n : Nat} {al : List TermD} {D : DataW Value} {row : Option Nat} (h : MapIs w b0 g n al D) (hg : w.grownBy w' row) (hne : some g ≠ row) (hr : ∀ g, row = some g → b0 ≤ g ∧ ∀ cs, ¬ Bk w g 112 cs) : MapIs w' b0 g n al D :=
 ⟨h.own.kept hg hne, h.good, h.has, fun t ht => let ⟨v, h1, h2⟩ := h.val t ht; ⟨v, h1, h2.grown' hg hr⟩⟩
theorem MapIs.noCells {w : World} {b0 g n : Nat} {al : List TermD} {D : DataW Value} (h : MapIs w b0 g n al D) {t : TypeId} {cs : Array Value} : ¬ Bk w g t cs := fun hb => by
 obtain ⟨es, clock, hg, _⟩ := h.own
 unfold Bk at hb
 rw [hg] at hb
 cases hb
structure L2 (b0 g gb r : Nat) (order : Int) (w0 w : World) (n : Nat) (al : List TermD) (D : DataW Value) (left : Lit → Bool) (cnt : Nat) (vs : List TermD) (v : Value) (cs : List Cell) : Prop where
 below : Below w0.heap.size w0 w
 box : Bk w gb 3 #[.int .i64 order]
 s0 : b0 ≤ w0.heap.size
 s2 : w0.heap.size ≤ gb
 s3 : w0.heap.size ≤ r
 rg : w.ranges Tryz.prog 66 elR g r n D left cnt
 map : MapIs w b0 g n al D
 sta : Sta order al
 short : ∀ t ∈ al, t.c.short
 sub : ∀ t ∈ vs, t ∈ al
 nd : vs.Nodup
 lft : ∀ kl, left kl = true ↔ ∃ t ∈ al, ml t.m = kl ∧ t ∉ vs
 own : w.ownsRow w0.heap.size 68 7 v cs.length (cs.flatMap encC)
 blk : ∃ gp, v.ownBlock = some gp
 tc : ∀ x ∈ cs, TC w b0 x.t (encC x)
section
variable {b0 g gb r n cnt cnt' : Nat} {order : Int} {w0 w w' : World} {al vs : List TermD} {D : DataW Value} {left : Lit → Bool} {v v' : Value} {cs : List Cell}
theorem L2.noCells (h : L2 b0 g gb r order w0 w n al D left cnt vs v cs) {t : TypeId} {ds : Array Value} : ¬ Bk w r t ds := fun hb => by
 obtain ⟨es, clock, since, seen, c0, _, _, _, _, hr, _⟩ := h.rg
 unfold Bk at hb
 rw [hr] at hb
 cases hb
theorem L2.up (h : L2 b0 g gb r order w0 w n al D left cnt vs v cs) (hb : Below w.heap.size w w') : L2 b0 g gb r order w0 w' n al D left cnt vs v cs :=
 ⟨h.below.trans (hb.mono h.below.size), h.box.up hb, h.s0, h.s2, h.s3, h.rg.kept ⟨hb.os, hb.tape, hb.output, hb.size, fun k hk _ => hb.block k hk⟩ (row := none) (by simp) (by simp), h.map.up hb, h.sta, h.short, h.sub, h.nd, h.lft, own_below h.own hb, h.blk, fun x hx => (h.tc x hx).up hb⟩
theorem own_grown {w w' : World} {base : Nat} {e : TypeId} {sz n : Nat} {v : Value} {xs : List Value} (h : w.ownsRow base e sz v n xs) {row : Option Nat} (hg : w.grownBy w' row) (hne : v.ownBlock ≠ row) : w'.ownsRow base e sz v n xs := by
 refine ⟨h.1, ?_⟩
 rcases h.2 with h1 | ⟨g, cap, cur, rfl, h2, h3, r⟩
 ·exact .inl h1
 ·refine .inr ⟨g, cap, cur, rfl, h2, ?_, r⟩
  have hgl : g < w.heap.size := Bk.lt (show Bk w g e _ from h3)
  exact (hg.block g hgl (by simpa [Value.ownBlock] using hne)).trans h3
theorem L2.next (h : L2 b0 g gb r order w0 w n al D left cnt vs v cs) {t : TermD} (ht : t ∈ al) (hn : t ∉ vs) (hg : w.grownBy w' (some r)) (hrg : w'.ranges Tryz.prog 66 elR g r n D (fun z => left z && !z.sameKey (ml t.m)) cnt') :
    L2 b0 g gb r order w0 w' n al D (fun z => left z && !z.sameKey (ml t.m)) cnt' (vs ++ [t]) v cs := by
 have hr : ∀ g', some r = some g' → b0 ≤ g' ∧ ∀ cs, ¬ Bk w g' 112 cs := fun g' e => by injection e with e; subst e; exact ⟨ah h.s0 h.s3, fun cs => h.noCells⟩
 have hne : some g ≠ some r := fun e => h.rg.ne (by injection e with e; exact e.symm)
 refine ⟨h.below.grown hg h.below.size (fun k hk => by injection hk with hk; subst hk; exact h.s3), h.box.grown hg (fun e => by injection e with e; subst e; exact h.noCells h.box), h.s0, h.s2, h.s3, hrg, h.map.grown hg hne hr, h.sta, h.short, ?_, ?_, ?_, ?_, h.blk, fun x hx => (h.tc x hx).grown' hg hr⟩
 ·intro s hs
  rcases List.mem_append.1 hs with hs | hs
  ·exact h.sub s hs
  ·rw [List.mem_singleton.1 hs]; exact ht
 ·rw [List.nodup_append]
  exact ⟨h.nd, by simp, fun a ha b hb e => hn (by rw [List.mem_singleton.1 hb] at e; rwa [← e])⟩
 ·intro kl
  rw [Bool.and_eq_true, h.lft]
  constructor
  ·rintro ⟨⟨s, hs, rfl, hsv⟩, h2⟩
   refine ⟨s, hs, rfl, fun hm => ?_⟩
   rcases List.mem_append.1 hm with hm | hm
   ·exact hsv hm
   ·rw [List.mem_singleton.1 hm, WideAt.sameKey_self (ml_key (h.map.good t ht))] at h2; cases h2
  ·rintro ⟨s, hs, rfl, hsv⟩
   refine ⟨⟨s, hs, rfl, fun hm => hsv (List.mem_append.2 (.inl hm))⟩, ?_⟩
   cases hk : (ml s.m).sameKey (ml t.m)
   ·rfl
   ·have e := ml_inj (h.map.good s hs) (h.map.good t ht) (WideAt.sameKey_eq hk)
    exact absurd (List.mem_append.2 (.inr (by rw [h.sta.inj hs ht e]; simp))) hsv
 ·refine own_grown h.own hg (fun e => ?_)
  obtain ⟨⟨ds, hk⟩, _⟩ := own_bk h.own e
  exact h.noCells hk
theorem L2.app (h : L2 b0 g gb r order w0 w n al D left cnt vs v cs) {x : Cell} (hx : TC w b0 x.t (encC x)) (hg : w.grownBy w' v.ownBlock) (ho : w'.ownsRow w0.heap.size 68 7 v' (cs.length + 1) (cs.flatMap encC ++ encC x)) (hv : v'.ownBlock = v.ownBlock ∨ v'.ownBlock = some w.heap.size) :
    L2 b0 g gb r order w0 w' n al D left cnt vs v' (cs ++ [x]) := by
 obtain ⟨gp, hgp⟩ := h.blk
 obtain ⟨⟨ds, hk⟩, hbg⟩ := own_bk h.own hgp
 rw [hgp] at hg hv
 have hr : ∀ g', some gp = some g' → b0 ≤ g' ∧ ∀ cs, ¬ Bk w g' 112 cs := fun g' e => by injection e with e; subst e; exact ⟨ah h.s0 hbg, not_limbs hk (by decide)⟩
 refine ⟨h.below.grown hg h.below.size (fun k hk => by injection hk with hk; subst hk; exact hbg), h.box.grown hg (fun e => by injection e with e; subst e; exact Bk.ne_ hk h.box (by decide) rfl), h.s0, h.s2, h.s3, h.rg.kept hg (fun e => by injection e with e; subst e; exact h.map.noCells hk) (fun e => by injection e with e; subst e; exact h.noCells hk), h.map.grown hg (fun e => by injection e with e; subst e; exact h.map.noCells hk) hr, h.sta, h.short, h.sub, h.nd, h.lft, ?_, ?_, ?_⟩
 ·rw [List.length_append, List.flatMap_append, List.flatMap_cons, List.flatMap_nil, List.append_nil]; exact ho
 ·rcases hv with e | e
  ·exact ⟨_, e⟩
  ·exact ⟨_, e⟩
 ·intro y hy
  rcases List.mem_append.1 hy with hy | hy
  ·exact (h.tc y hy).grown' hg hr
  ·rw [List.mem_singleton.1 hy]; exact hx.grown' hg hr
theorem Sta.nodup {o : Int} {al : List TermD} (h : Sta o al) : al.Nodup := by
 refine List.Pairwise.imp_of_mem (fun {a b} ha hb hab e => ?_) h.fall
 rw [e, (monCmp_zero h.ord (h.good b hb) (h.good b hb)).2 rfl] at hab
 omega
theorem L2.all (h : L2 b0 g gb r order w0 w n al D left cnt vs v cs) (hl : ∀ kl, left kl = false) (ht : cs.map (·.t) = vs.filter nz) : (cs.map (·.t)).Perm (al.filter nz) := by
 rw [ht]
 refine List.Perm.filter _ ?_
 refine (List.perm_ext_iff_of_nodup h.nd h.sta.nodup).2 fun t => ⟨h.sub t, fun hta => ?_⟩
 rcases Classical.em (t ∈ vs) with hv | hv
 ·exact hv
 ·have := (h.lft (ml t.m)).2 ⟨t, hta, rfl, hv⟩
  rw [hl] at this; cases this
theorem perm_keys {cs : List Cell} (hs : Sta order al) (hp : (cs.map (·.t)).Perm (al.filter nz)) : (cs.map (·.t.m)).Nodup := by
 have h1 : ((cs.map (·.t)).map (·.m)).Nodup := by
  refine ((hp.map _).nodup_iff).2 ?_
  unfold List.Nodup
  rw [List.pairwise_map]
  refine List.Pairwise.imp_of_mem (fun {a b} ha hb hab e => ?_) (hs.fall.filter nz)
  rw [e, (monCmp_zero hs.ord (hs.good b ((List.mem_filter.1 hb).1)) (hs.good b ((List.mem_filter.1 hb).1))).2 rfl] at hab
  omega
 rwa [List.map_map] at h1
theorem tcs_of {w : World} {b0 : Nat} : ∀ {ds : List Cell}, (∀ x ∈ ds, TC w b0 x.t (encC x)) → TCs w b0 (ds.map (·.t)) (ds.flatMap encC)
 | [], _ => .nil
 | x :: ds, h => by
   rw [List.map_cons, List.flatMap_cons]
   exact .cons (h x (by simp)) (tcs_of fun y hy => h y (by simp [hy]))
end
theorem Tryz.slPoly : Tryz.prog.underlying 25 = some (.slice 68) := by kernel_rfl
theorem Tryz.infTerm : (Tryz.prog.info? 68).map (fun i => (i.zero, i.size, i.bytes)) = some (some (.agg #[.bool false, .slice none 0 0, .slice none 0 0, .int .i64 0, .int .i64 0, .int .i64 0, .int .i64 0]), 7, 88) := by kernel_rfl
def Fr (B : Nat) (A : Option Addr) : Prop := ∀ ad, A = some ad → B ≤ ad.block
theorem Fr.none (B : Nat) : Fr B none := fun _ h => by cases h
theorem Fr.le {B B' : Nat} {A : Option Addr} (h : Fr B A) (hb : B' ≤ B) : Fr B' A := fun ad e => ah hb (h ad e)
theorem poly_MakeF (b0 : Nat) (order : Int) (A : Option Addr) (c : Nat) (ts : List TermD) (w : World) (hb0 : b0 ≤ w.heap.size) (h : RPol w b0 A ts) (hc : ts.length ≤ c) (hs : shortP ts) :
    Calls Tryz.prog 177 #[.int .i64 order, .slice A ts.length c] w fun e w' => ∃ A' c', e = .returned (.tuple #[.slice A' (polMake order ts).2.length c', .int .i64 (polMake order ts).1]) ∧
     (polMake order ts).2.length ≤ c' ∧ RPol w' b0 A' (polMake order ts).2 ∧ Below w.heap.size w w' ∧ Fr w.heap.size A' := by
 have HP := aa h
 have HS := aa hs
 have HB0 := aa hb0
 have hl := hs.1
 clear h hs hb0
 have hmm := @run_makeMap Tryz.prog
 cases ho : ordered order
 ·have HE : Hd (polMake order ts = (1, [])) := ⟨by unfold polMake; rw [ho]; rfl⟩
  have CO := aa (fun W => poly_ordered order W)
  rw [ho] at CO
  clear ho
  go_enter Tryz.func177, Tryz.ntmps177
  go_wp2_with fail
  refine (CO.out _).mono ?_
  rintro e w' ⟨rfl, rfl⟩
  go_wp2_with fail
  go_ret2
  rw [HE.out]
  exact ⟨none, 0, rfl, ae _, RPol.nil _ _ _, (ag _ _).alloc (ae _) _, Fr.none _⟩
 ·cases hodd : anyOdd ts
  ·have CO := aa (fun W => poly_ordered order W)
   rw [ho] at CO
   have CD := aa (fun W hW => contains_odd b0 A c ts W hW hc HS.out)
   rw [hodd] at CD
   have HO := aa ho
   have HD := aa hodd
   clear ho hodd
   go_enter Tryz.func177, Tryz.ntmps177
   go_wp2_with fail
   refine (CO.out _).mono ?_
   rintro e w' ⟨rfl, rfl⟩
   go_wp2_with fail
   refine (CD.out _ (HP.out.up ((ag _ _).alloc (ae _) _))).mono ?_
   rintro e w2 ⟨rfl, hb2⟩
   have K2 := aa (((ag w.heap.size w).alloc (ae _) (Obj.cells #[.int .i64 order] 3)).trans (hb2.mono (by simp)))
   have B2 := aa ((Bk.new_ w 3 #[.int .i64 order]).up hb2)
   clear hb2
   go_wp2_with fail
   go_loopw [27] (fun v wr => ∃ (i : Nat) (al : List TermD) (D : DataW Value), v = .int .i64 i ∧ i ≤ ts.length ∧ Hd (Mk b0 w2.heap.size w.heap.size order w wr i al D) ∧ Hd (putAll order [] ts = putAll order al (ts.drop i))) (fun v _ => ts.length - (intOf v).toNat)
   case atStart =>
    refine ⟨0, [], .map [], rfl, by omega, ⟨?_⟩, ⟨rfl⟩⟩
    have hbm : Below w2.heap.size w2 (w2.alloc (.map #[] 0)) := (ag _ _).alloc (ae _) _
    exact ⟨K2.out.trans (hbm.mono K2.out.size), B2.out.up hbm, K2.out.size, ae _, Nat.ne_of_lt B2.out.lt, MapIs.made _ _, Sta.nil (ordered_ok.1 HO.out), (fun _ h => by cases h)⟩
   case round =>
    obtain ⟨i, al, D, rfl, hi, hk, hput⟩ := hrel
    have hgn : Hd (w.heap.size ≠ w2.heap.size) := ⟨hk.out.ne⟩
    obtain ⟨g, hgg⟩ : ∃ g, w2.heap.size = g := ⟨_, rfl⟩
    rw [hgg] at hk hgn ⊢
    by_cases hlt : i < ts.length
    ·obtain ⟨ad, B1, c1, B2, c2, t, rfl, hab, hti, hrt, q0, q1, q2, q3, q4, q5, q6⟩ := (HP.out.up hk.out.below).get hlt
     have i2 : (i : Int) < ts.length := by omega
     have i3 : (0 : Int) ≤ i := by omega
     have hri : right t = true := by
      have h1 := List.any_eq_false.1 HD.out t (List.mem_of_getElem? hti.out)
      simpa using h1
     have hmt : monMay t.m = true := by unfold right at hri; simp at hri; exact hri.2
     have HST := aa (HS.out.2 t (List.mem_of_getElem? hti.out))
     have HM := aa hmt
     clear hri hmt
     have HPUT : Hd (putAll order al (ts.drop i) = if (putD order al t).1 ≠ 0 then ((putD order al t).1, []) else putAll order (putD order al t).2 (ts.drop (i + 1))) := ⟨by
      have e1 : ts[i] = t := by have := hti.out; rw [ai hlt] at this; injection this
      rw [List.drop_eq_getElem_cons hlt, e1]; rfl⟩
     clear hti
     go_upto_region 8 with (fail)
     refine wp_gen (fun W => Below wr.heap.size wr W ∧ Mk b0 g w.heap.size order w W i al D ∧ Bk W wr.heap.size 68 #[.bool t.c.neg, .slice B1 t.c.num.length c1, .slice B2 t.c.den.length c2, .int .i64 t.m.x0, .int .i64 t.m.x1, .int .i64 t.m.x2, .int .i64 t.m.x3]) ⟨(ag _ _).alloc (ae _) _, hk.out.up ((ag _ _).alloc (ae _) _), Bk.new_ _ _ _⟩ ?_
     intro W BX
     obtain ⟨⟨b0_, b1_, b2_⟩, b3_, b4_, b5_, b6_⟩ := BX.out.2.2.seven
     have HRR : Hd (RRat W b0 (.agg #[.bool t.c.neg, .slice B1 t.c.num.length c1, .slice B2 t.c.den.length c2]) t.c) := ⟨by
      have hr2 := hrt.out.up BX.out.1
      obtain ⟨x1, x2, x3, x4, e, y1, y2, y3, y4⟩ := hr2
      simp only [Value.agg.injEq, Array.mk.injEq, List.cons.injEq, Value.slice.injEq, true_and, and_true] at e
      obtain ⟨⟨rfl, rfl⟩, rfl, rfl⟩ := e
      exact ⟨_, _, _, _, rfl, y1, y2, y3, y4⟩⟩
     have hgt : Hd (w.heap.size ≤ wr.heap.size) := ⟨hk.out.below.size⟩
     obtain ⟨gt, hgt'⟩ : ∃ gt, wr.heap.size = gt := ⟨_, rfl⟩
     rw [hgt'] at b0_ b1_ b2_ b3_ b4_ b5_ b6_ BX hgt ⊢
     clear hgt' hrt q0 q1 q2 q3 q4 q5 q6 hab hk
     cases hh : hasM al t.m
     ·go_wp2_with (at_lookup; refine wpList_lookup_own_ok _ rfl _ _ 261 rfl 66 64 Tryz.keyed Tryz.mapT elR (Tryz.zRat _) (.held zRatV) [] rfl g i D rfl BX.out.2.1.map.own (mv t.m) (ml t.m) rfl (keyOf_mv HM.out) ?_)
      intro v ps hv
      have hD : Maps.has D (ml t.m) = false := (BX.out.2.1.map.hasM HM.out).trans hh
      rw [hD]
      have hv2 : v = .agg #[.bool false, .slice none 0 0, .slice none 0 0] := by
       rw [atKey_of_not_has hD] at hv
       unfold elR at hv
       injection hv with hv
       injection hv with hv _
       injection hv
      subst hv2
      clear hv hD
      have BX3 := aa (BX.out.2.1.up ((ag _ _).alloc (ae _) (Obj.cells #[.bool false, .slice none 0 0, .slice none 0 0] 64)))
      have hnn : i < maxLen := by unfold maxLen; omega
      obtain ⟨⟨a0_, a1_, a2_⟩, a3_, a4_, a5_, a6_⟩ := (BX.out.2.2.al (Obj.cells #[.bool false, .slice none 0 0, .slice none 0 0] 64)).seven
      go_wp2_with (at_mapUpdate; refine wpList_mapUpdate_in _ rfl _ _ _ 261 rfl 66 64 Tryz.keyed Tryz.mapT elR g i D rfl BX3.out.map.own hnn (mv t.m) (.agg #[.bool t.c.neg, .slice B1 t.c.num.length c1, .slice B2 t.c.den.length c2]) (ml t.m) rfl rfl (keyOf_mv HM.out) (.held (.agg #[.bool t.c.neg, .slice B1 t.c.num.length c1, .slice B2 t.c.den.length c2])) [] rfl ?_)
      intro w4 hown4 hturn4
      have HPUT2 : Hd ((putD order al t).1 = 0 ∧ (putD order al t).2 = insD order t al) := ⟨by unfold putD; rw [hh]; exact ⟨rfl, rfl⟩⟩
      have K4 := aa (BX3.out.put HB0.out (bl := insD order t al) HM.out (HRR.out.up ((ag _ _).alloc (ae _) _)) (fun s => by rw [mem_insD]; exact ⟨fun h => h.imp id fun h => ⟨h, hasM_not hh s h⟩, fun h => h.imp id And.left⟩) hown4 hturn4 (BX3.out.sta.ins HM.out (hasM_not hh)) HST.out)
      clear hown4 hturn4 hh
      go_wp2_with fail
      go_roundw
      case measure => first | (simp [intOf]; done) | (simp [intOf]; omega)
      case rel =>
       refine ⟨i + 1, _, _, by go_num, by omega, K4, ⟨?_⟩⟩
       rw [hput.out, HPUT.out, HPUT2.out.1, HPUT2.out.2]; rfl
     ·obtain ⟨p, hpm, hpe, hgm⟩ := getM_of hh
      obtain ⟨u, hu1, hu2⟩ := BX.out.2.1.map.val p hpm
      have hsp := BX.out.2.1.short p hpm
      rw [hpe] at hu1
      have HHH := aa hh
      go_wp2_with (at_lookup; refine wpList_lookup_own_ok _ rfl _ _ 261 rfl 66 64 Tryz.keyed Tryz.mapT elR (Tryz.zRat _) (.held zRatV) [] rfl g i D rfl BX.out.2.1.map.own (mv t.m) (ml t.m) rfl (keyOf_mv HM.out) ?_)
      intro v ps hv
      have hD : Maps.has D (ml t.m) = true := (BX.out.2.1.map.hasM HM.out).trans hh
      rw [hD]
      have hv2 : v = u := by
       try rw [hu1] at hv
       unfold elR at hv
       injection hv with hv
       injection hv with hv _
       injection hv
      subst hv2
      clear hv hD hu1 hh
      obtain ⟨S, hS⟩ : ∃ S, addD p.c t.c = S := ⟨_, rfl⟩
      have HSS := aa (show S.2.short by rw [← hS]; exact addD_short _ _)
      have HPD : Hd (putD order al t = if S.1 ≠ 0 then (S.1, []) else (0, setM al t.m S.2)) := ⟨by unfold putD; rw [if_pos HHH.out, hgm, hS]⟩
      have HU := aa hu2
      obtain ⟨pA, pc, pB, pd, rfl, _, _, _, _⟩ := hu2
      have hal : Hd (Below W.heap.size W (W.alloc (Obj.cells #[.bool p.c.neg, .slice pA p.c.num.length pc, .slice pB p.c.den.length pd] 64))) := ⟨(ag _ _).alloc (ae _) _⟩
      have CA := aa (ratio_Add b0 _ _ p.c t.c _ (ah (ah HB0.out BX.out.2.1.below.size) hal.out.size) (HU.out.up hal.out) (HRR.out.up hal.out) hsp HST.out)
      rw [hS] at CA
      clear hS hgm hpe hpm hsp
      have BX3 := aa (BX.out.2.1.up hal.out)
      have T3 := aa (BX.out.2.2.up hal.out)
      have A3 := aa (Bk.new_ W 64 #[.bool p.c.neg, .slice pA p.c.num.length pc, .slice pB p.c.den.length pd])
      have hgA : Hd (w.heap.size ≤ W.heap.size ∧ gt ≠ W.heap.size ∧ w.heap.size ≠ W.heap.size) := ⟨BX.out.2.1.below.size, Nat.ne_of_lt BX.out.2.2.lt, Nat.ne_of_lt BX.out.2.1.box.lt⟩
      obtain ⟨⟨a0_, a1_, a2_⟩, a3_, a4_, a5_, a6_⟩ := T3.out.seven
      obtain ⟨d0_, d1_, d2_⟩ := A3.out.three
      go_wp2_with fail
      refine CA.out.mono ?_
      rintro e w5 ⟨x, rfl, hx, hb5⟩
      have BX5 := aa (BX3.out.up hb5)
      have T5 := aa (T3.out.up hb5)
      have A5 := aa (A3.out.up hb5)
      have HX5 := aa hx
      obtain ⟨xA, xc, xB, xd, rfl, _, _, _, _⟩ := hx
      obtain ⟨gA, hgA'⟩ : ∃ gA, W.heap.size = gA := ⟨_, rfl⟩
      rw [hgA'] at A5 hgA ⊢
      clear hgA' hb5 CA BX3 T3 A3 hal BX b0_ b1_ b2_ b3_ b4_ b5_ b6_ a0_ a1_ a2_ a3_ a4_ a5_ a6_ d0_ d1_ d2_ HU HRR
      obtain ⟨d0_, d1_, d2_⟩ := A5.out.three
      have fz := fun i => A5.out.froz i
      go_upto_region 12 with (fail)
      refine wp_gen (fun W6 => Mk b0 g w.heap.size order w W6 i al D ∧ Bk W6 gt 68 #[.bool t.c.neg, .slice B1 t.c.num.length c1, .slice B2 t.c.den.length c2, .int .i64 t.m.x0, .int .i64 t.m.x1, .int .i64 t.m.x2, .int .i64 t.m.x3] ∧ Bk W6 gA 64 #[.bool S.2.neg, .slice xA S.2.num.length xc, .slice xB S.2.den.length xd] ∧ RRat W6 b0 (.agg #[.bool S.2.neg, .slice xA S.2.num.length xc, .slice xB S.2.den.length xd]) S.2)
       ⟨BX5.out.set3 HB0.out A5.out hgA.out.1 hgA.out.2.2 _ _ _, ((T5.out.far hgA.out.2.1 _).far hgA.out.2.1 _).far hgA.out.2.1 _, A5.out.set3 _ _ _, HX5.out.set3 A5.out (ah HB0.out hgA.out.1) _ _ _⟩ ?_
      intro W6 BY
      clear d0_ d1_ d2_ fz A5 T5 BX5 HX5
      by_cases h0 : S.1 = 0
      ·have e1 : (S.1 != 0) = false := by rw [bne_eq_false_iff_eq]; exact h0
       obtain ⟨⟨a0_, a1_, a2_⟩, a3_, a4_, a5_, a6_⟩ := BY.out.2.1.seven
       obtain ⟨d0_, d1_, d2_⟩ := BY.out.2.2.1.three
       have hnn : i < maxLen := by unfold maxLen; omega
       have HPD2 : Hd (putD order al t = (0, setM al t.m S.2)) := ⟨by rw [HPD.out, if_neg (by rw [h0]; simp)]⟩
       clear HPD h0
       go_wp2_with (at_mapUpdate; refine wpList_mapUpdate_in _ rfl _ _ _ 261 rfl 66 64 Tryz.keyed Tryz.mapT elR g i D rfl BY.out.1.map.own hnn (mv t.m) (.agg #[.bool S.2.neg, .slice xA S.2.num.length xc, .slice xB S.2.den.length xd]) (ml t.m) rfl rfl (keyOf_mv HM.out) (.held (.agg #[.bool S.2.neg, .slice xA S.2.num.length xc, .slice xB S.2.den.length xd])) [] rfl ?_)
       intro w7 hown7 hturn7
       have K7 := aa (BY.out.1.put HB0.out (bl := setM al t.m S.2) (t := ⟨S.2, t.m⟩) HM.out BY.out.2.2.2 (fun s => mem_setM HHH.out) hown7 hturn7 (BY.out.1.sta.set _ _) HSS.out)
       clear hown7 hturn7
       go_wp2_with fail
       go_roundw
       case measure => first | (simp [intOf]; done) | (simp [intOf]; omega)
       case rel =>
        refine ⟨i + 1, _, _, by go_num, by omega, K7, ⟨?_⟩⟩
        rw [hput.out, HPUT.out, HPD2.out]; rfl
      ·have e1 : (S.1 != 0) = true := by rw [bne_iff_ne]; exact h0
       go_wp2_with fail
       go_ret2
       have HE : polMake order ts = (S.1, []) := by
        unfold polMake
        rw [HO.out, HD.out, hput.out, HPUT.out, HPD.out]
        simp [h0]
       rw [HE]
       exact ⟨none, 0, rfl, ae _, RPol.nil _ _ _, BY.out.1.below, Fr.none _⟩
    ·have hie : i = ts.length := by omega
     subst hie
     have HALL : Hd (putAll order [] ts = (0, al)) := ⟨by rw [hput.out, List.drop_length]; rfl⟩
     clear hput hi
     have hszD : size D ≤ ts.length := hk.out.map.own.size_le
     obtain ⟨i0, hi0, hz0, hz1, hz2⟩ := info_split Tryz.infTerm
     obtain ⟨w3, hmk, hown3, hgr3⟩ := run_make_own (P := Tryz.prog) wr w.heap.size 25 68 i0 _ 7 Tryz.slPoly hi0 hz0 hz1 .i64 .i64 (size D) (by rw [hz2]; omega) (by unfold maxLen; omega) hk.out.below.size
     have hb3 : Below wr.heap.size wr w3 := ⟨hgr3.os, hgr3.tape, hgr3.output, hgr3.size, fun k hk => hgr3.block k hk (by simp)⟩
     have M3 := aa (hk.out.up hb3)
     have O3 := aa hown3
     clear hi0 hz0 hz1 hz2 hlt hown3 hgr3
     go_wp2_with (first
      | (at_len; refine wpList_len_own _ rfl _ 261 rfl 66 64 Tryz.mapT elR g _ D rfl hk.out.map.own ?_)
      | (at_range; refine wpList_range_own _ rfl _ 261 rfl 66 64 Tryz.keyed Tryz.mapT elR g _ D rfl M3.out.map.own ?_))
     intro w4 hrg4 hg4 hs4
     have hb4 : Below w3.heap.size w3 w4 := ⟨hg4.os, hg4.tape, hg4.output, hg4.size, fun k hk => hg4.block k hk (by simp)⟩
     have M4 := aa (M3.out.up hb4)
     have LS : Hd (L2 b0 g w.heap.size w3.heap.size order w w4 ts.length al D (has D) (size D) [] (.slice (some ⟨wr.heap.size, 0, none⟩) 0 (size D)) []) := ⟨⟨M4.out.below, M4.out.box, HB0.out, M4.out.s2, M3.out.below.size, hrg4, M4.out.map, M4.out.sta, M4.out.short, (fun _ h => by cases h), List.nodup_nil, (fun kl => by rw [M4.out.map.has]; simp), own_below O3.out hb4, ⟨_, rfl⟩, fun _ h => by cases h⟩⟩
     obtain ⟨r, hr⟩ : ∃ r, w3.heap.size = r := ⟨_, rfl⟩
     rw [hr] at LS ⊢
     clear hr hrg4 hg4 hs4 hb4 M4 M3 O3 hmk hb3 hk
     go_wp2_with fail
     go_loopw [13] (fun v wx => ∃ (left : Lit → Bool) (cnt : Nat) (vs : List TermD) (cs : List Cell), Hd (L2 b0 g w.heap.size r order w wx ts.length al D left cnt vs v cs) ∧ Hd (cs.map (·.t) = vs.filter nz) ∧ wx.rangeLeft g r = cnt ∧ vs.length + cnt ≤ ts.length) (fun _ wx => wx.rangeLeft g r)
     case atStart => exact ⟨_, _, _, _, LS, ⟨rfl⟩, LS.out.rg.left_eq, by simpa using hszD⟩
     case round =>
      obtain ⟨left, cnt, vs, cs, hL, hT, hcnt, hvl⟩ := hrel
      have HCNT := aa hcnt
      clear hcnt
      obtain ⟨gp, hgp⟩ := hL.out.blk
      obtain ⟨cap, rfl, hcap, hcap2⟩ := own_form hL.out.own hgp
      clear hgp
      unfold maxLen at hcap2
      go_wp2_with (at_next; refine wpList_next_ranges _ rfl _ rfl 66 Tryz.keyed elR (fun x : Value => x) (fun x : Value => x) (fun key kl h => ⟨key, rfl⟩) (fun v y h => ⟨v, rfl⟩) g r ts.length D left cnt rfl hL.out.rg ?_ ?_)
      ·intro hc0 hl0
       have hpm := hL.out.all hl0 hT.out
       have hlen : cs.length = (al.filter nz).length := by rw [← hpm.length_eq, List.length_map]
       have HPM := aa hpm
       clear hl0 hc0 hpm
       have hcl : cs.length ≤ 1000000 := by
        have := hL.out.sta.nodup
        have h1 := (List.filter_sublist (p := nz) (l := al)).length_le
        have h2 := putAll_len HALL.out
        omega
       by_cases h60 : 60 < cs.length
       ·have h60' : (60 : Int) < cs.length := by omega
        have HE : Hd (polMake order ts = (90, [])) := ⟨by
         unfold polMake
         rw [HO.out, HD.out, HALL.out]
         simp [← hlen, h60]⟩
        clear hlen h60
        go_wp2_with fail
        go_ret2
        rw [HE.out]
        exact ⟨none, 0, rfl, ae _, RPol.nil _ _ _, hL.out.below, Fr.none _⟩
       ·have h60' : (cs.length : Int) ≤ 60 := by omega
        have HE : Hd (polMake order ts = (0, al.filter nz)) := ⟨by
         unfold polMake
         rw [HO.out, HD.out, HALL.out]
         simp [← hlen, h60]⟩
        clear hlen h60
        obtain ⟨hH, hgl, hgb⟩ := own_holds hL.out.own rfl
        obtain ⟨⟨ds0, hbk⟩, _⟩ := own_bk hL.out.own (gp := gp) rfl
        have hne : w.heap.size ≠ gp := fun e => by subst e; exact Bk.ne_ hbk hL.out.box (by decide) rfl
        have CS := aa (sort_terms order (ordered_ok.1 HO.out) gp w.heap.size cap cs wr hH hgl hL.out.box.one hne (by omega) (perm_keys hL.out.sta HPM.out))
        have HG := aa (af hgb hbk)
        clear hH hgl hgb hbk hne
        go_wp2_with fail
        refine CS.out.mono ?_
        rintro e w9 ⟨rfl, ds, hd1, hd2, hg9, hH9⟩
        have HD1 := aa hd1
        have HD2 := aa hd2
        have HG9 := aa hg9
        have HH9 := aa hH9
        clear hd1 hd2 hg9 hH9
        go_wp2_with fail
        go_ret2
        have heq : ds.map (·.t) = al.filter nz := fall_eq hL.out.sta.ord (fun t ht => by obtain ⟨x, _, rfl⟩ := List.mem_map.1 ht; exact x.hm) HD2.out (hL.out.sta.fall.filter nz) ((HD1.out.map _).trans HPM.out)
        have hln : (al.filter nz).length = cs.length := by rw [← heq, List.length_map, HD1.out.length_eq]
        rw [HE.out]
        have hr : ∀ g', some gp = some g' → b0 ≤ g' ∧ ∀ cs, ¬ Bk wr g' 112 cs := fun g' e => by injection e with e; subst e; exact ⟨ah HB0.out HG.out.1, not_limbs HG.out.2 (by decide)⟩
        have hgl9 : gp < w9.heap.size := Nat.lt_of_lt_of_le HG.out.2.lt HG9.out.size
        refine ⟨some ⟨gp, 0, none⟩, cap, (by rw [hln]; rfl), by rw [hln]; exact hcap, ⟨ds.flatMap encC, ?_, ?_⟩, hL.out.below.grown HG9.out hL.out.below.size (fun k hk => by injection hk with hk; subst hk; exact HG.out.1), fun ad e => by injection e with e; subst e; exact HG.out.1⟩
        ·rw [← heq, List.length_map]; exact holds_rd HH9.out hgl9
        ·rw [← heq]; exact tcs_of fun x hx => (hL.out.tc x (HD1.out.mem_iff.1 hx)).grown' HG9.out hr
      ·intro x cv kl y y2 w1 cnt1 hkx hlx hRy hat hrg1 hlt1 hg1 hs1 hen
       obtain ⟨t, hta, htk, htv⟩ := (hL.out.lft kl).1 hlx
       have hmt := hL.out.map.good t hta
       obtain ⟨u, hu1, hu2⟩ := hL.out.map.val t hta
       subst htk
       have ex : x = mv t.m := Tryz.keyed.inj hkx (keyOf_mv hmt)
       have ec : cv = u := by
        have h1 := hat (.held zRatV)
        rw [hu1] at h1
        unfold elR at hRy
        injection hRy with hRy
        injection hRy with hRy _
        rw [← hRy] at h1
        injection h1 with h1
        exact h1.symm
       subst ex ec
       have L1 := aa (hL.out.next hta htv hg1 hrg1)
       have HU := aa (show RRat w1 b0 cv t.c from let ⟨v', h1, h2⟩ := L1.out.map.val t hta; by
        have := (h1 (.held zRatV)).symm.trans (hu1 (.held zRatV))
        injection this with this
        rw [← this]; exact h2)
       obtain ⟨pA, pc, pB, pd, rfl, hpc, hpd, _, _⟩ := hu2
       have HMT := aa hmt
       have hsh := aa (hL.out.short t hta)
       have HLT := aa hlt1
       unfold mv at hen
       clear hkx hlx hRy hat hrg1 hlt1 hg1 hs1 hu1 hta htv hmt hL
       go_upto_region 20 with (fail)
       refine wp_gen (fun W => L2 b0 g w.heap.size r order w W ts.length al D (fun z => left z && !z.sameKey (ml t.m)) cnt1 (vs ++ [t]) (.slice (some ⟨gp, 0, none⟩) cs.length cap) cs ∧ RRat W b0 (.agg #[.bool t.c.neg, .slice pA t.c.num.length pc, .slice pB t.c.den.length pd]) t.c ∧ Bk W w1.heap.size 66 #[.int .i64 t.m.x0, .int .i64 t.m.x1, .int .i64 t.m.x2, .int .i64 t.m.x3] ∧ Bk W (w1.heap.size + 1) 64 #[.bool t.c.neg, .slice pA t.c.num.length pc, .slice pB t.c.den.length pd])
        ⟨(L1.out.up ((ag _ _).alloc (ae _) _)).up ((ag _ _).alloc (ae _) _), (HU.out.up ((ag _ _).alloc (ae _) _)).up ((ag _ _).alloc (ae _) _), (Bk.new_ _ _ _).al _, by
         have := Bk.new_ (w1.alloc (.cells #[.int .i64 t.m.x0, .int .i64 t.m.x1, .int .i64 t.m.x2, .int .i64 t.m.x3] 66)) 64 #[.bool t.c.neg, .slice pA t.c.num.length pc, .slice pB t.c.den.length pd]
         simpa using this⟩ ?_
       intro W BZ
       obtain ⟨gC, hgC⟩ : ∃ gC, w1.heap.size + 1 = gC := ⟨_, rfl⟩
       obtain ⟨gM, hgM⟩ : ∃ gM, w1.heap.size = gM := ⟨_, rfl⟩
       rw [hgC] at BZ ⊢
       rw [hgM] at BZ ⊢
       clear hgC hgM hen L1 HU
       obtain ⟨d0_, d1_, d2_⟩ := BZ.out.2.2.2.three
       have CZ := aa (ratio_Zero b0 _ t.c W BZ.out.2.1)
       have hvl2 : vs.length + 1 + cnt1 ≤ ts.length := by have := HLT.out; omega
       have hcl : cs.length ≤ vs.length := by
        have h1 : (cs.map (·.t)).length = cs.length := List.length_map _
        rw [← h1, hT.out]
        exact (List.filter_sublist (p := nz) (l := vs)).length_le
       cases hz : decide (t.c.num.length = 0)
       ·rw [hz] at CZ
        have HNZ : Hd (nz t = true) := ⟨by unfold nz; rw [hz]; rfl⟩
        clear hz
        go_wp2_with fail
        refine CZ.out.mono ?_
        rintro e w5 ⟨rfl, hb5⟩
        have L5 := aa (BZ.out.1.up hb5)
        have R5 := aa (BZ.out.2.1.up hb5)
        have M5 := aa (BZ.out.2.2.1.up hb5)
        have C5 := aa (BZ.out.2.2.2.up hb5)
        clear hb5 CZ d0_ d1_ d2_
        obtain ⟨d0_, d1_, d2_⟩ := C5.out.three
        obtain ⟨f0_, f1_, f2_, f3_⟩ := M5.out.four
        have L6 := aa (L5.out.up ((ag _ _).alloc (ae _) (Obj.cells #[.bool t.c.neg, .slice pA t.c.num.length pc, .slice pB t.c.den.length pd, .int .i64 t.m.x0, .int .i64 t.m.x1, .int .i64 t.m.x2, .int .i64 t.m.x3] 68)))
        have R6 := aa (R5.out.up ((ag _ _).alloc (ae _) (Obj.cells #[.bool t.c.neg, .slice pA t.c.num.length pc, .slice pB t.c.den.length pd, .int .i64 t.m.x0, .int .i64 t.m.x1, .int .i64 t.m.x2, .int .i64 t.m.x3] 68)))
        have RN := aa (Rd.new_ w5 #[.bool t.c.neg, .slice pA t.c.num.length pc, .slice pB t.c.den.length pd, .int .i64 t.m.x0, .int .i64 t.m.x1, .int .i64 t.m.x2, .int .i64 t.m.x3] 68 1 7 rfl)
        obtain ⟨i0, hi0, hz0, hz1, hz2⟩ := info_split Tryz.infTerm
        have x63 : cs.length + 1 ≤ maxLen := by unfold maxLen; omega
        have xby : (cs.length + 1) * 88 ≤ 140737488355328 := by omega
        go_wp2_with (at_builtin; refine wpList_append_rd _ rfl _ _ 25 rfl w.heap.size 68 i0 _ 7 88 Tryz.slPoly hi0 hz0 hz1 hz2 rfl (by decide) _ cs.length (cs.flatMap encC) rfl L6.out.own _ _ 1 _ (encC ⟨pA, pc, pB, pd, t, HMT.out⟩) rfl RN.out (encC_one _) x63 xby L6.out.below.size ?_)
        intro v' w6 ho hg hv
        have L7 := aa (L6.out.app (x := ⟨pA, pc, pB, pd, t, HMT.out⟩) (by
         obtain ⟨x1, x2, x3, x4, e, y1, y2, y3, y4⟩ := R6.out
         simp only [Value.agg.injEq, Array.mk.injEq, List.cons.injEq, Value.slice.injEq, true_and, and_true] at e
         obtain ⟨⟨rfl, rfl⟩, rfl, rfl⟩ := e
         exact ⟨_, _, _, _, rfl, y1, y2, y3, y4⟩) hg ho (by simpa [Value.ownBlock] using hv))
        clear ho hg hv
        go_wp2_with fail
        go_roundw
        case measure => rw [L7.out.rg.left_eq, HCNT.out]; exact HLT.out
        case rel =>
         refine ⟨_, _, _, _, L7, ⟨?_⟩, L7.out.rg.left_eq, ?_⟩
         ·rw [List.map_append, hT.out, List.filter_append, List.filter_cons, HNZ.out]; rfl
         ·rw [List.length_append]; simpa using hvl2
       ·rw [hz] at CZ
        have HNZ : Hd (nz t = false) := ⟨by unfold nz; rw [hz]; rfl⟩
        clear hz
        go_wp2_with fail
        refine CZ.out.mono ?_
        rintro e w5 ⟨rfl, hb5⟩
        have L5 := aa (BZ.out.1.up hb5)
        clear hb5 CZ
        go_wp2_with fail
        go_roundw
        case measure => rw [L5.out.rg.left_eq, HCNT.out]; exact HLT.out
        case rel =>
         refine ⟨_, _, _, _, L5, ⟨?_⟩, L5.out.rg.left_eq, ?_⟩
         ·rw [hT.out, List.filter_append, List.filter_cons, HNZ.out]; simp
         ·rw [List.length_append]; simpa using hvl2
  ·have HE : Hd (polMake order ts = (1, [])) := ⟨by unfold polMake; rw [ho, hodd]; rfl⟩
   have CO := aa (fun W => poly_ordered order W)
   rw [ho] at CO
   have CD := aa (fun W hW => contains_odd b0 A c ts W hW hc HS.out)
   rw [hodd] at CD
   clear ho hodd
   go_enter Tryz.func177, Tryz.ntmps177
   go_wp2_with fail
   refine (CO.out _).mono ?_
   rintro e w' ⟨rfl, rfl⟩
   go_wp2_with fail
   refine (CD.out _ (HP.out.up ((ag _ _).alloc (ae _) _))).mono ?_
   rintro e w2 ⟨rfl, hb2⟩
   have K2 := aa (((ag w.heap.size w).alloc (ae _) (Obj.cells #[.int .i64 order] 3)).trans (hb2.mono (by simp)))
   clear hb2
   go_wp2_with fail
   go_ret2
   rw [HE.out]
   exact ⟨none, 0, rfl, ae _, RPol.nil _ _ _, K2.out, Fr.none _⟩
end Go.Proofs.YtgjkgkgieeoalaaGreat
