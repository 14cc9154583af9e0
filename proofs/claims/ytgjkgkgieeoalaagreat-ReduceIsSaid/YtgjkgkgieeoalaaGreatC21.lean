/- Parts of the proof, joined: each theorem says what it shows. -/
import Derived.Test.YtgjkgkgieeoalaaGreatC20
import Derived.Test.YtgjkgkgieeoalaaGreatC17
import Derived.Test.YtgjkgkgieeoalaaGreatC01
import Derived.Test.YtgjkgkgieeoalaaGreatC05
import Derived.Test.YtgjkgkgieeoalaaGreatC19
import Derived.Deep.LoopGhost
import Derived.ChangeKeysEq
set_option linter.unusedVariables false
set_option linter.unusedSimpArgs false
set_option maxHeartbeats 24000000
set_option maxRecDepth 100000
namespace Go.Proofs.YtgjkgkgieeoalaaGreat
open Go.RowKit Go.Maps
def zRatV : Value := .agg #[.bool false, .slice none 0 0, .slice none 0 0]
structure Mk (b0 g gb : Nat) (order : Int) (w0 w : World) (n : Nat) (al : List TermD) (D : DataW Value) : Prop where
 below : Below w0.heap.size w0 w
 box : Bk w gb 3 #[.int .i64 order]
 s1 : w0.heap.size ≤ g
 s2 : w0.heap.size ≤ gb
 ne : gb ≠ g
 map : MapIs w b0 g n al D
 sta : Sta order al
 short : ∀ t ∈ al, t.c.short
section
variable {b0 g gb n : Nat} {order : Int} {w0 w w' : World} {al bl : List TermD} {D : DataW Value}
theorem Mk.up (h : Mk b0 g gb order w0 w n al D) (hb : Below w.heap.size w w') : Mk b0 g gb order w0 w' n al D :=
 ⟨h.below.trans (hb.mono h.below.size), h.box.up hb, h.s1, h.s2, h.ne, h.map.up hb, h.sta, h.short⟩
theorem Mk.put (h : Mk b0 g gb order w0 w n al D) (hb0 : b0 ≤ w0.heap.size) {t : TermD} {v : Value} (hm : monMay t.m = true) (hv : RRat w b0 v t.c) (hbl : ∀ s, s ∈ bl ↔ s = t ∨ (s ∈ al ∧ s.m ≠ t.m))
    (hown : w'.ownsMap Tryz.prog 66 elR g (n + 1) (D.put (ml t.m) (.held v))) (hg : w.mapTurned w' g) (hst : Sta order bl) (hsh : t.c.short) : Mk b0 g gb order w0 w' (n + 1) bl (D.put (ml t.m) (.held v)) :=
 ⟨h.below.grown hg.grown h.below.size (fun k hk => by injection hk with hk; subst hk; exact h.s1), h.box.grown hg.grown (fun e => h.ne (by injection e)), h.s1, h.s2, h.ne, h.map.put (Nat.le_trans hb0 h.s1) hm hv hbl hown hg.grown, hst,
  fun s hs => by
   rcases (hbl s).1 hs with rfl | ⟨hs, _⟩
   ·exact hsh
   ·exact h.short s hs⟩
theorem Mk.set (h : Mk b0 g gb order w0 w n al D) (hb0 : b0 ≤ w0.heap.size) {g' : Nat} {t : TypeId} {cs : Array Value} (hk : Bk w g' t cs) (ht : t ≠ 112) (hb : w0.heap.size ≤ g') (hne : gb ≠ g') (i : Nat) (u : Value) : Mk b0 g gb order w0 (w.setCell ⟨g', i, none⟩ u) n al D :=
 ⟨h.below.setCell hb u, h.box.far hne u, h.s1, h.s2, h.ne, h.map.set hk ht (Nat.le_trans hb0 hb) rfl u, h.sta, h.short⟩
theorem Mk.set3 (h : Mk b0 g gb order w0 w n al D) (hb0 : b0 ≤ w0.heap.size) {g' : Nat} {a b c : Value} (hk : Bk w g' 64 #[a, b, c]) (hb : w0.heap.size ≤ g') (hne : gb ≠ g') (x y z : Value) :
    Mk b0 g gb order w0 (((w.setCell ⟨g', 0, none⟩ x).setCell ⟨g', 1, none⟩ y).setCell ⟨g', 2, none⟩ z) n al D :=
 ((h.set hb0 hk (by decide) hb hne 0 x).set hb0 (hk.set_ 0 x) (by decide) hb hne 1 y).set hb0 ((hk.set_ 0 x).set_ 1 y) (by decide) hb hne 2 z
end
theorem RRat.set3 {w : World} {b0 g : Nat} {a b c v : Value} {r : RatD} (h : RRat w b0 v r) (hk : Bk w g 64 #[a, b, c]) (hb : b0 ≤ g) (x y z : Value) : RRat (((w.setCell ⟨g, 0, none⟩ x).setCell ⟨g, 1, none⟩ y).setCell ⟨g, 2, none⟩ z) b0 v r :=
 h.grown (((set_grown w ⟨g, 0, none⟩ x).set _ _).set _ _) (fun g' e => by injection e with e; subst e; exact ⟨hb, _, _, hk, by decide⟩)
theorem own_bk {w : World} {base gp : Nat} {e : TypeId} {sz n : Nat} {v : Value} {xs : List Value} (h : w.ownsRow base e sz v n xs) (hb : v.ownBlock = some gp) : (∃ cs, Bk w gp e cs) ∧ base ≤ gp := by
 rcases h.2 with ⟨rfl, _⟩ | ⟨g', cap, cur, rfl, h2, h3, r⟩
 ·simp [Value.ownBlock] at hb
 ·have : g' = gp := by simpa [Value.ownBlock] using hb
  subst this
  exact ⟨⟨_, h3⟩, h2⟩
theorem own_form {w : World} {base gp : Nat} {e : TypeId} {sz n : Nat} {v : Value} {xs : List Value} (h : w.ownsRow base e sz v n xs) (hb : v.ownBlock = some gp) : ∃ cap, v = .slice (some ⟨gp, 0, none⟩) n cap ∧ n ≤ cap ∧ cap ≤ maxLen := by
 rcases h.2 with ⟨rfl, _⟩ | ⟨g', cap, cur, rfl, h2, h3, h4, h5, _⟩
 ·simp [Value.ownBlock] at hb
 ·have : g' = gp := by simpa [Value.ownBlock] using hb
  subst this
  exact ⟨_, rfl, h4, h5⟩
theorem TC.grown' {w w' : World} {b0 : Nat} {t : TermD} {cs : List Value} {row : Option Nat} (h : TC w b0 t cs) (hg : w.grownBy w' row) (hr : ∀ g, row = some g → b0 ≤ g ∧ ∀ cs, ¬ Bk w g 112 cs) : TC w' b0 t cs :=
 let ⟨A, c, B, d, e, h1, h2, h3, h4⟩ := h; ⟨A, c, B, d, e, h1, h2, h3.grown' hg hr, h4.grown' hg hr⟩
theorem not_limbs {w : World} {g : Nat} {t : TypeId} {cs : Array Value} (h : Bk w g t cs) (ht : t ≠ 112) (ds : Array Value) : ¬ Bk w g 112 ds := fun h' => Bk.ne_ h h' ht rfl
theorem MapIs.grown {w w' : World} {b0 g n : Nat} {al : List TermD} {D : DataW Value} {row : Option Nat} (h : MapIs w b0 g n al D) (hg : w.grownBy w' row) (hne : some g ≠ row) (hr : ∀ g, row = some g → b0 ≤ g ∧ ∀ cs, ¬ Bk w g 112 cs) : MapIs w' b0 g n al D :=
 ⟨h.own.kept hg hne, h.good, h.has, fun t ht => let ⟨v, h1, h2⟩ := h.val t ht; ⟨v, h1, h2.grown' hg hr⟩⟩
theorem MapIs.noCells {w : World} {b0 g n : Nat} {al : List TermD} {D : DataW Value} (h : MapIs w b0 g n al D) {t : TypeId} {cs : Array Value} : ¬ Bk w g t cs := fun hb => by
 obtain ⟨es, clock, hg, _⟩ := h.own
 unfold Bk at hb
 rw [hg] at hb
 cases hb
structure L2 (b0 g gb r : Nat) (order : Int) (w0 w : World) (n : Nat) (al : List TermD) (D : DataW Value) (left : Lit → Bool) (cnt : Nat) (vs : List TermD) (v : Value) (cs : List Cell) : Prop where
 below : Below w0.heap.size w0 w
 box : Bk w gb 3 #[.int .i64 order]
 s0 : b0 ≤ w0.heap.size
 s2 : w0.heap.size ≤ gb
 s3 : w0.heap.size ≤ r
 rg : w.ranges Tryz.prog 66 elR g r n D left cnt
 map : MapIs w b0 g n al D
 sta : Sta order al
 short : ∀ t ∈ al, t.c.short
 sub : ∀ t ∈ vs, t ∈ al
 nd : vs.Nodup
 lft : ∀ kl, left kl = true ↔ ∃ t ∈ al, ml t.m = kl ∧ t ∉ vs
 own : w.ownsRow w0.heap.size 68 7 v cs.length (cs.flatMap encC)
 blk : ∃ gp, v.ownBlock = some gp
 tc : ∀ x ∈ cs, TC w b0 x.t (encC x)
section
variable {b0 g gb r n cnt cnt' : Nat} {order : Int} {w0 w w' : World} {al vs : List TermD} {D : DataW Value} {left : Lit → Bool} {v v' : Value} {cs : List Cell}
theorem L2.noCells (h : L2 b0 g gb r order w0 w n al D left cnt vs v cs) {t : TypeId} {ds : Array Value} : ¬ Bk w r t ds := fun hb => by
 obtain ⟨es, clock, since, seen, c0, _, _, _, _, hr, _⟩ := h.rg
 unfold Bk at hb
 rw [hr] at hb
 cases hb
theorem L2.up (h : L2 b0 g gb r order w0 w n al D left cnt vs v cs) (hb : Below w.heap.size w w') : L2 b0 g gb r order w0 w' n al D left cnt vs v cs :=
 ⟨h.below.trans (hb.mono h.below.size), h.box.up hb, h.s0, h.s2, h.s3, h.rg.kept ⟨hb.os, hb.tape, hb.output, hb.size, fun k hk _ => hb.block k hk⟩ (row := none) (by simp) (by simp), h.map.up hb, h.sta, h.short, h.sub, h.nd, h.lft, own_below h.own hb, h.blk, fun x hx => (h.tc x hx).up hb⟩
theorem own_grown {w w' : World} {base : Nat} {e : TypeId} {sz n : Nat} {v : Value} {xs : List Value} (h : w.ownsRow base e sz v n xs) {row : Option Nat} (hg : w.grownBy w' row) (hne : v.ownBlock ≠ row) : w'.ownsRow base e sz v n xs := by
 refine ⟨h.1, ?_⟩
 rcases h.2 with h1 | ⟨g, cap, cur, rfl, h2, h3, r⟩
 ·exact .inl h1
 ·refine .inr ⟨g, cap, cur, rfl, h2, ?_, r⟩
  have hgl : g < w.heap.size := Bk.lt (show Bk w g e _ from h3)
  exact (hg.block g hgl (by simpa [Value.ownBlock] using hne)).trans h3
theorem L2.next (h : L2 b0 g gb r order w0 w n al D left cnt vs v cs) {t : TermD} (ht : t ∈ al) (hn : t ∉ vs) (hg : w.grownBy w' (some r)) (hrg : w'.ranges Tryz.prog 66 elR g r n D (fun z => left z && !z.sameKey (ml t.m)) cnt') :
    L2 b0 g gb r order w0 w' n al D (fun z => left z && !z.sameKey (ml t.m)) cnt' (vs ++ [t]) v cs := by
 have hr : ∀ g', some r = some g' → b0 ≤ g' ∧ ∀ cs, ¬ Bk w g' 112 cs := fun g' e => by injection e with e; subst e; exact ⟨Nat.le_trans h.s0 h.s3, fun cs => h.noCells⟩
 have hne : some g ≠ some r := fun e => h.rg.ne (by injection e with e; exact e.symm)
 refine ⟨h.below.grown hg h.below.size (fun k hk => by injection hk with hk; subst hk; exact h.s3), h.box.grown hg (fun e => by injection e with e; subst e; exact h.noCells h.box), h.s0, h.s2, h.s3, hrg, h.map.grown hg hne hr, h.sta, h.short, ?_, ?_, ?_, ?_, h.blk, fun x hx => (h.tc x hx).grown' hg hr⟩
 ·intro s hs
  rcases List.mem_append.1 hs with hs | hs
  ·exact h.sub s hs
  ·rw [List.mem_singleton.1 hs]; exact ht
 ·rw [List.nodup_append]
  exact ⟨h.nd, by simp, fun a ha b hb e => hn (by rw [List.mem_singleton.1 hb] at e; rwa [← e])⟩
 ·intro kl
  rw [Bool.and_eq_true, h.lft]
  constructor
  ·rintro ⟨⟨s, hs, rfl, hsv⟩, h2⟩
   refine ⟨s, hs, rfl, fun hm => ?_⟩
   rcases List.mem_append.1 hm with hm | hm
   ·exact hsv hm
   ·rw [List.mem_singleton.1 hm, WideAt.sameKey_self (ml_key (h.map.good t ht))] at h2; cases h2
  ·rintro ⟨s, hs, rfl, hsv⟩
   refine ⟨⟨s, hs, rfl, fun hm => hsv (List.mem_append.2 (.inl hm))⟩, ?_⟩
   cases hk : (ml s.m).sameKey (ml t.m)
   ·rfl
   ·have e := ml_inj (h.map.good s hs) (h.map.good t ht) (WideAt.sameKey_eq hk)
    exact absurd (List.mem_append.2 (.inr (by rw [h.sta.inj hs ht e]; simp))) hsv
 ·refine own_grown h.own hg (fun e => ?_)
  obtain ⟨⟨ds, hk⟩, _⟩ := own_bk h.own e
  exact h.noCells hk
theorem L2.app (h : L2 b0 g gb r order w0 w n al D left cnt vs v cs) {x : Cell} (hx : TC w b0 x.t (encC x)) (hg : w.grownBy w' v.ownBlock) (ho : w'.ownsRow w0.heap.size 68 7 v' (cs.length + 1) (cs.flatMap encC ++ encC x)) (hv : v'.ownBlock = v.ownBlock ∨ v'.ownBlock = some w.heap.size) :
    L2 b0 g gb r order w0 w' n al D left cnt vs v' (cs ++ [x]) := by
 obtain ⟨gp, hgp⟩ := h.blk
 obtain ⟨⟨ds, hk⟩, hbg⟩ := own_bk h.own hgp
 rw [hgp] at hg hv
 have hr : ∀ g', some gp = some g' → b0 ≤ g' ∧ ∀ cs, ¬ Bk w g' 112 cs := fun g' e => by injection e with e; subst e; exact ⟨Nat.le_trans h.s0 hbg, not_limbs hk (by decide)⟩
 refine ⟨h.below.grown hg h.below.size (fun k hk => by injection hk with hk; subst hk; exact hbg), h.box.grown hg (fun e => by injection e with e; subst e; exact Bk.ne_ hk h.box (by decide) rfl), h.s0, h.s2, h.s3, h.rg.kept hg (fun e => by injection e with e; subst e; exact h.map.noCells hk) (fun e => by injection e with e; subst e; exact h.noCells hk), h.map.grown hg (fun e => by injection e with e; subst e; exact h.map.noCells hk) hr, h.sta, h.short, h.sub, h.nd, h.lft, ?_, ?_, ?_⟩
 ·rw [List.length_append, List.flatMap_append, List.flatMap_cons, List.flatMap_nil, List.append_nil]; exact ho
 ·rcases hv with e | e
  ·exact ⟨_, e⟩
  ·exact ⟨_, e⟩
 ·intro y hy
  rcases List.mem_append.1 hy with hy | hy
  ·exact (h.tc y hy).grown' hg hr
  ·rw [List.mem_singleton.1 hy]; exact hx.grown' hg hr
theorem Sta.nodup {o : Int} {al : List TermD} (h : Sta o al) : al.Nodup := by
 refine List.Pairwise.imp_of_mem (fun {a b} ha hb hab e => ?_) h.fall
 rw [e, (monCmp_zero h.ord (h.good b hb) (h.good b hb)).2 rfl] at hab
 omega
theorem L2.all (h : L2 b0 g gb r order w0 w n al D left cnt vs v cs) (hl : ∀ kl, left kl = false) (ht : cs.map (·.t) = vs.filter nz) : (cs.map (·.t)).Perm (al.filter nz) := by
 rw [ht]
 refine List.Perm.filter _ ?_
 refine (List.perm_ext_iff_of_nodup h.nd h.sta.nodup).2 fun t => ⟨h.sub t, fun hta => ?_⟩
 rcases Classical.em (t ∈ vs) with hv | hv
 ·exact hv
 ·have := (h.lft (ml t.m)).2 ⟨t, hta, rfl, hv⟩
  rw [hl] at this; cases this
theorem perm_keys {cs : List Cell} (hs : Sta order al) (hp : (cs.map (·.t)).Perm (al.filter nz)) : (cs.map (·.t.m)).Nodup := by
 have h1 : ((cs.map (·.t)).map (·.m)).Nodup := by
  refine ((hp.map _).nodup_iff).2 ?_
  unfold List.Nodup
  rw [List.pairwise_map]
  refine List.Pairwise.imp_of_mem (fun {a b} ha hb hab e => ?_) (hs.fall.filter nz)
  rw [e, (monCmp_zero hs.ord (hs.good b ((List.mem_filter.1 hb).1)) (hs.good b ((List.mem_filter.1 hb).1))).2 rfl] at hab
  omega
 rwa [List.map_map] at h1
theorem tcs_of {w : World} {b0 : Nat} : ∀ {ds : List Cell}, (∀ x ∈ ds, TC w b0 x.t (encC x)) → TCs w b0 (ds.map (·.t)) (ds.flatMap encC)
 | [], _ => .nil
 | x :: ds, h => by
   rw [List.map_cons, List.flatMap_cons]
   exact .cons (h x (by simp)) (tcs_of fun y hy => h y (by simp [hy]))
end
end Go.Proofs.YtgjkgkgieeoalaaGreat
namespace Go.Proofs.YtgjkgkgieeoalaaGreat
open Go.RowKit
theorem sal2 {w0 w : World} {g : Nat} {t : TypeId} {cs : Array Value} (h : Hd (Below w0.heap.size w0 w) ∧ Hd (Bk w g t cs)) (o : Obj) : Hd (Below w0.heap.size w0 (w.alloc o)) ∧ Hd (Bk (w.alloc o) g t cs) :=
 ⟨⟨h.1.out.alloc h.1.out.size o⟩, ⟨h.2.out.al o⟩⟩
theorem set3_lo {w0 w : World} {g : Nat} (h : Below w0.heap.size w0 w) (hg : w0.heap.size ≤ g) (x y z : Value) : Below w0.heap.size w0 (((w.setCell ⟨g, 0, none⟩ x).setCell ⟨g, 1, none⟩ y).setCell ⟨g, 2, none⟩ z) :=
 ((h.setCell hg _).setCell hg _).setCell hg _
theorem rrat_Of (b0 : Nat) (n : Int) (w : World) (hb0 : b0 ≤ w.heap.size) (h0 : -9223372036854775808 ≤ n) (h1 : n ≤ 9223372036854775807) :
    Calls Tryz.prog 46 #[.int .i64 n] w fun e w' => ∃ x, e = .returned x ∧ RRat w' b0 x (ofD n) ∧ Below w.heap.size w w' := by
 have HB0 := Hd.mk hb0
 clear hb0
 have C2 := Hd.mk (fun W => rnat_Of (n.natAbs : Nat) (by omega) (by omega) W)
 rw [Int.toNat_natCast] at C2
 have hcases : (decide (n < 0) = true ∧ IntKind.u64.wrap n = n + 18446744073709551616 ∧ IntKind.u64.wrap (-(n + 18446744073709551616)) = (n.natAbs : Nat) ∧ Hd (ofD n = ⟨true, limbs n.natAbs, [1]⟩)) ∨
     (decide (n < 0) = false ∧ IntKind.u64.wrap n = (n.natAbs : Nat) ∧ True ∧ Hd (ofD n = ⟨false, limbs n.natAbs, [1]⟩)) := by
  by_cases hn : n < 0
  ·exact .inl ⟨decide_eq_true hn, by rw [IntKind.wrap_u64]; omega, by rw [IntKind.wrap_u64]; omega, ⟨by unfold ofD; rw [decide_eq_true hn]⟩⟩
  ·exact .inr ⟨decide_eq_false hn, by rw [IntKind.wrap_u64]; omega, trivial, ⟨by unfold ofD; rw [decide_eq_false hn]⟩⟩
 rcases hcases with ⟨e1, e2, e3, HD⟩ | ⟨e1, e2, -, HD⟩
 all_goals
  go_enter Tryz.func46, Tryz.ntmps46
  go_upto_region 4 with (fail)
  refine wp_gen (fun W => Below w.heap.size w W ∧ Bk W w.heap.size 64 #[.bool false, .slice none 0 0, .slice none 0 0]) ⟨(Below.refl _ _).alloc (Nat.le_refl _) _, Bk.new_ _ _ _⟩ ?_
  intro W hW
  go_wp2_with fail
  refine (C2.out W).mono ?_
  rintro e w5 ⟨x, rfl, ho, hb⟩
  obtain ⟨Ax, cx, rfl, hcx, _, _⟩ := ho.reads
  have hS := And.intro (Hd.mk (hW.out.1.trans (hb.mono hW.out.1.size))) (Hd.mk (hW.out.2.up hb))
  have hSa := sal2 hS (Obj.cells #[.int .u64 1] 112)
  obtain ⟨p6a, p7a, p8a⟩ := hSa.2.out.three
  have fza := fun i => hSa.2.out.froz i
  have HX := Hd.mk ho
  clear ho hb
  go_wp2_with fail
  refine bodyPost_ret (res_rat rfl _ _ w.heap.size _ rfl (hSa.2.out.set3 _ _ _) rfl) rfl ?_
  rw [HD.out]
  have o1 := lit1_own w5 1 w5.heap.size (Nat.le_refl _)
  refine ⟨_, rfl, RRat.set3 ?r hSa.2.out HB0.out _ _ _, set3_lo hSa.1.out (Nat.le_refl _) _ _ _⟩
  case r => exact ⟨Ax, cx, _, 1, rfl, hcx, Nat.le_refl _, (RRow.of_own (HX.out.al _) (limbs_u64 _) b0).1, (RRow.of_own o1 (U64.nil.cons (by omega) (by omega)) b0).1⟩
theorem RTerm.rat {w : World} {b0 : Nat} {t : TermD} {B1 B2 : Option Addr} {c1 c2 : Nat} (h : RTerm w b0 (.agg #[.bool t.c.neg, .slice B1 t.c.num.length c1, .slice B2 t.c.den.length c2, .int .i64 t.m.x0, .int .i64 t.m.x1, .int .i64 t.m.x2, .int .i64 t.m.x3]) t) :
    RRat w b0 (.agg #[.bool t.c.neg, .slice B1 t.c.num.length c1, .slice B2 t.c.den.length c2]) t.c := by
 obtain ⟨x1, x2, x3, x4, e, y1, y2, y3, y4⟩ := h
 simp only [Value.agg.injEq, Array.mk.injEq, List.cons.injEq, Value.slice.injEq, true_and, and_true] at e
 obtain ⟨⟨rfl, rfl⟩, rfl, rfl⟩ := e
 exact ⟨_, _, _, _, rfl, y1, y2, y3, y4⟩
instance : DecidableEq RatD := fun r s => decidable_of_iff (sameR r s = true) sameR_iff
instance : DecidableEq TermD := fun s t => decidable_of_iff (s.c = t.c ∧ s.m = t.m) ⟨fun h => by cases s; cases t; simp at h; simp [h.1, h.2], fun h => by rw [h]; exact ⟨rfl, rfl⟩⟩
theorem Tryz.arM : Tryz.prog.underlying 66 = some (.array 4 3) := by kernel_rfl
theorem Tryz.undI : Tryz.prog.underlying 3 = some (.int .i64) := by kernel_rfl
theorem Tryz.infI : (Tryz.prog.info? 3).map (fun i => (i.zero, i.size, i.bytes)) = some (some (.int .i64 0), 1, 8) := by kernel_rfl
theorem Tryz.cellsI : Tryz.prog.cellsOf 3 = 1 := by kernel_rfl
theorem eq_mono (a b : MonD) (w : World) : (Op.equalIn 10000 66 (.agg a.v) (.agg b.v)).run Tryz.prog w = .ok (decide (a = b)) w := by
 obtain ⟨i, hi, hz, hs, hb⟩ := info_split Tryz.infI
 rw [run_equalIn_array (w := w) 9999 _ _ Tryz.arM hi]
 rw [Tryz.cellsI]
 have hp : Tryz.prog.plainKey 3 = true := by kernel_rfl
 have p : ∀ (m : MonD) (w : World), (Go.part 3 m.v (0 * 1)).run Tryz.prog w = .ok (.int .i64 m.x0) w ∧ (Go.part 3 m.v (1 * 1)).run Tryz.prog w = .ok (.int .i64 m.x1) w ∧
     (Go.part 3 m.v (2 * 1)).run Tryz.prog w = .ok (.int .i64 m.x2) w ∧ (Go.part 3 m.v (3 * 1)).run Tryz.prog w = .ok (.int .i64 m.x3) w := fun m w =>
  ⟨run_part_plain w hp rfl, run_part_plain w hp rfl, run_part_plain w hp rfl, run_part_plain w hp rfl⟩
 have q : ∀ (x y : Int) (w : World), (Op.equalIn 9999 3 (.int .i64 x) (.int .i64 y)).run Tryz.prog w = .ok (x == y) w := fun x y w => run_equalIn_int w 9998 3 .i64 .i64 x y Tryz.undI
 have hd : decide (a = b) = ((a.x0 == b.x0) && (a.x1 == b.x1) && (a.x2 == b.x2) && (a.x3 == b.x3)) := by
  rw [Bool.eq_iff_iff]
  simp only [decide_eq_true_eq, Bool.and_eq_true, beq_iff_eq]
  constructor
  ·rintro rfl; exact ⟨⟨⟨rfl, rfl⟩, rfl⟩, rfl⟩
  ·rintro ⟨⟨⟨h0, h1⟩, h2⟩, h3⟩; cases a; cases b; simp_all
 rw [hd]
 simp only [show List.range 4 = [0, 1, 2, 3] from rfl, Op.eqItems, Sem.run_bind, (p a _).1, (p b _).1, Result.andThen_ok, q]
 cases a.x0 == b.x0
 ·simp
 simp only [Bool.not_true, Bool.false_eq_true, if_false, Sem.run_bind, (p a _).2.1, (p b _).2.1, Result.andThen_ok, q, Bool.true_and]
 cases a.x1 == b.x1
 ·simp
 simp only [Bool.not_true, Bool.false_eq_true, if_false, Sem.run_bind, (p a _).2.2.1, (p b _).2.2.1, Result.andThen_ok, q, Bool.true_and]
 cases a.x2 == b.x2
 ·simp
 simp only [Bool.not_true, Bool.false_eq_true, if_false, Sem.run_bind, (p a _).2.2.2, (p b _).2.2.2, Result.andThen_ok, q, Bool.true_and]
 cases a.x3 == b.x3 <;> simp
theorem rpol_ordered (o : Int) (w : World) : Calls Tryz.prog 82 #[.int .i64 o] w fun e w' => e = .returned (.bool (ordered o)) ∧ w = w' := by
 by_cases h1 : 0 ≤ o
 ·have e1 : decide (0 ≤ o) = true := decide_eq_true h1
  have HE : Hd (ordered o = decide (o ≤ 2)) := ⟨by unfold ordered; rw [e1]; rfl⟩
  go_enter Tryz.func82, Tryz.ntmps82
  go_wp2_with fail
  go_ret
  exact ⟨retBool HE.out.symm, rfl⟩
 ·have e1 : decide (0 ≤ o) = false := decide_eq_false h1
  have HE : Hd (ordered o = false) := ⟨by unfold ordered; rw [e1]; rfl⟩
  go_enter Tryz.func82, Tryz.ntmps82
  go_wp2_with fail
  go_ret
  exact ⟨retBool HE.out.symm, rfl⟩
theorem rpol_Same (b0 : Nat) (A B : Option Addr) (c d : Nat) (ps qs : List TermD) (w : World) (h : RPol w b0 A ps) (hc : ps.length ≤ c) (hs : shortP ps) (h' : RPol w b0 B qs) (hc' : qs.length ≤ d) (hs' : shortP qs) :
    Calls Tryz.prog 80 #[.slice A ps.length c, .slice B qs.length d] w fun e w' => e = .returned (.bool (decide (ps = qs))) ∧ Below w.heap.size w w' := by
 have hl := hs.1
 have hl' := hs'.1
 have HP := Hd.mk h
 have HS := Hd.mk hs
 have HP' := Hd.mk h'
 have HS' := Hd.mk hs'
 clear h hs h' hs'
 by_cases hlen : ps.length = qs.length
 ·have e1 : ((ps.length : Int) != (qs.length : Int)) = false := by rw [bne_eq_false_iff_eq]; omega
  have HL := Hd.mk hlen
  clear hlen
  go_enter Tryz.func80, Tryz.ntmps80
  go_wp2_with fail
  go_loopw [5] (fun v wr => ∃ i : Nat, v = .int .i64 i ∧ i ≤ ps.length ∧ Hd (Below w.heap.size w wr) ∧ Hd (ps.take i = qs.take i)) (fun v _ => ps.length - (intOf v).toNat)
  case atStart => exact ⟨0, rfl, by omega, ⟨.refl _ _⟩, ⟨rfl⟩⟩
  case round =>
   obtain ⟨i, rfl, hi, hb, ha⟩ := hrel
   by_cases hlt : i < ps.length
   ·have hlt2 : i < qs.length := by have := HL.out; omega
    have i1 : (i : Int) < ps.length := by omega
    have i2 : (i : Int) < qs.length := by omega
    have i3 : (0 : Int) ≤ i := by omega
    obtain ⟨ad, B1, c1, B2, c2, t, rfl, hab, ht, hrt, q0, q1, q2, q3, q4, q5, q6⟩ := (HP.out.up hb.out).get hlt
    obtain ⟨ad', B1', c1', B2', c2', t', rfl, hab', ht', hrt', r0, r1, r2, r3, r4, r5, r6⟩ := (HP'.out.up hb.out).get hlt2
    have hst := (HS.out.2 t (List.mem_of_getElem? ht.out))
    have hst' := (HS'.out.2 t' (List.mem_of_getElem? ht'.out))
    have CS := Hd.mk (fun W (hB : Hd (Below wr.heap.size wr W)) => rrat_Same b0 _ _ t.c t'.c W (hrt.out.rat.up hB.out) (hrt'.out.rat.up hB.out) hst hst')
    have HD : Hd (decide (t = t') = (sameR t.c t'.c && decide (t.m = t'.m))) := ⟨by
     rw [Bool.eq_iff_iff]
     simp only [decide_eq_true_eq, Bool.and_eq_true, sameR_iff]
     exact ⟨fun h => by rw [h]; exact ⟨rfl, rfl⟩, fun h => by cases t; cases t'; simp at h; simp [h.1, h.2]⟩⟩
    have HG : Hd (ps[i] = t ∧ qs[i] = t') := ⟨by
     have e1 := ht.out; have e2 := ht'.out
     rw [List.getElem?_eq_getElem hlt] at e1; rw [List.getElem?_eq_getElem hlt2] at e2
     exact ⟨Option.some.inj e1, Option.some.inj e2⟩⟩
    have HNE : Hd (t ≠ t' → decide (ps = qs) = false) := ⟨fun hne => decide_eq_false fun e => hne (by rw [← HG.out.1, ← HG.out.2]; subst e; rfl)⟩
    have HEQ : Hd (t = t' → ps.take (i + 1) = qs.take (i + 1)) := ⟨fun e => by
     rw [List.take_succ_eq_append_getElem hlt, List.take_succ_eq_append_getElem hlt2, ha.out, HG.out.1, HG.out.2, e]⟩
    have eqm := fun W => eq_mono t.m t'.m W
    obtain ⟨mb, hmb⟩ : ∃ mb, decide (t.m = t'.m) = mb := ⟨_, rfl⟩
    rw [hmb] at HD
    simp only [hmb] at eqm
    clear hst hst' hrt hrt' hmb ht ht' HG
    obtain ⟨c0, c1, c2, c3, c4, c5, c6⟩ := Wd.at7 q0 q1 q2 q3 q4 q5 q6
    obtain ⟨d0, d1, d2, d3, d4, d5, d6⟩ := Wd.at7 r0 r1 r2 r3 r4 r5 r6
    clear q0 q1 q2 q3 q4 q5 q6 r0 r1 r2 r3 r4 r5 r6
    obtain ⟨sb, hsb⟩ : ∃ sb, sameR t.c t'.c = sb := ⟨_, rfl⟩
    rw [hsb] at CS HD
    clear hsb
    have HF : Hd (decide (t = t') = (sb && mb)) := HD
    by_cases hf : (sb && mb) = false
    ·have HX := Hd.mk (HNE.out (fun e => by have := HF.out; rw [decide_eq_true e, hf] at this; cases this))
     have HT : Hd (mb = false ∨ (mb = true ∧ sb = false)) := ⟨by cases mb <;> cases sb <;> simp_all⟩
     clear hf
     rcases HT.out with rfl | ⟨rfl, rfl⟩
     all_goals
      go_wp2_with fail
      refine wp_region_wd wr (by kernel_rfl) (by kernel_rfl) (Below.refl _ _).drew ?_
      repeat (go_big_quiet_step ((go_at_call 117; exact Wd.call (CS.out _ ⟨Wd.lo _⟩))))
      refine wd_nil fun nq => ?_
      go_wp2_with fail
      go_ret
      exact ⟨retBool HX.out.symm, goes hb.out nq.lo⟩
    ·have HX := Hd.mk (HEQ.out (of_decide_eq_true (by rw [HF.out]; simpa using hf)))
     obtain ⟨rfl, rfl⟩ : sb = true ∧ mb = true := by simpa using hf
     clear hf
     go_wp2_with fail
     refine wp_region_wd wr (by kernel_rfl) (by kernel_rfl) (Below.refl _ _).drew ?_
     repeat (go_big_quiet_step ((go_at_call 117; exact Wd.call (CS.out _ ⟨Wd.lo _⟩))))
     refine wd_nil fun nq => ?_
     go_wp2_with fail
     go_roundw
     case measure => first | (simp [intOf]; done) | (simp [intOf]; omega)
     case rel => exact ⟨i + 1, by go_num, by omega, ⟨goes hb.out nq.lo⟩, HX⟩
   ·obtain rfl : i = ps.length := by omega
    have HF : Hd (ps = qs) := ⟨by have := ha.out; rwa [List.take_length, HL.out, List.take_length] at this⟩
    go_wp2_with fail
    go_ret
    exact ⟨retBool (decide_eq_true HF.out).symm, hb.out⟩
 ·have e1 : ((ps.length : Int) != (qs.length : Int)) = true := by rw [bne_iff_ne]; omega
  have HL := Hd.mk hlen
  clear hlen
  go_enter Tryz.func80, Tryz.ntmps80
  go_wp2_with fail
  go_ret
  exact ⟨retBool (decide_eq_false (fun e => HL.out (by rw [e]))).symm, .refl _ _⟩
theorem okAt_of {order : Int} {ts : List TermD} {i : Nat} {t : TermD} (h : ts[i]? = some t) : okAt order ts i = (ratMay t.c && monMay t.m && !decide (t.c.num.length = 0) && (decide (i = 0) || decide (0 < monCmp order (ts.getD (i - 1) tz).m t.m))) := by
 unfold okAt
 rw [show ts.getD i tz = t by rw [List.getD_eq_getElem?_getD, h]; rfl]
 rfl
theorem rpol_May (b0 : Nat) (order : Int) (A : Option Addr) (c : Nat) (ts : List TermD) (w : World) (h : RPol w b0 A ts) (hc : ts.length ≤ c) (hs : shortP ts) :
    Calls Tryz.prog 25 #[.int .i64 order, .slice A ts.length c] w fun e w' => e = .returned (.bool (polMay order ts)) ∧ Below w.heap.size w w' := by
 have hl := hs.1
 have HP := Hd.mk h
 have HS := Hd.mk hs
 have CO := Hd.mk (rpol_ordered order w)
 clear h hs
 obtain ⟨ob, hob⟩ : ∃ ob, ordered order = ob := ⟨_, rfl⟩
 rw [hob] at CO
 have HO := Hd.mk hob
 clear hob
 by_cases h60 : 60 < ts.length
 ·have HF : Hd (polMay order ts = false) := ⟨by unfold polMay; rw [decide_eq_false (show ¬ ts.length ≤ 60 by omega)]; simp⟩
  cases ob
  all_goals
   go_enter Tryz.func25, Tryz.ntmps25
   go_wp2_with fail
   refine CO.out.mono ?_
   rintro e w2 ⟨rfl, rfl⟩
   go_wp2_with fail
   go_ret
   exact ⟨retBool HF.out.symm, .refl _ _⟩
 cases ob
 ·have HF : Hd (polMay order ts = false) := ⟨by unfold polMay; rw [HO.out]; simp⟩
  go_enter Tryz.func25, Tryz.ntmps25
  go_wp2_with fail
  refine CO.out.mono ?_
  rintro e w2 ⟨rfl, rfl⟩
  go_wp2_with fail
  go_ret
  exact ⟨retBool HF.out.symm, .refl _ _⟩
 have HF : Hd (polMay order ts = (List.range ts.length).all (okAt order ts)) := ⟨by unfold polMay; rw [HO.out, decide_eq_true (show ts.length ≤ 60 by omega)]; simp⟩
 go_enter Tryz.func25, Tryz.ntmps25
 go_wp2_with fail
 refine CO.out.mono ?_
 rintro e w2 ⟨rfl, rfl⟩
 clear CO
 go_wp2_with fail
 go_loopw [5] (fun v wr => ∃ i : Nat, v = .int .i64 i ∧ i ≤ ts.length ∧ Hd (Below w.heap.size w wr) ∧ Hd ((List.range i).all (okAt order ts) = true)) (fun v _ => ts.length - (intOf v).toNat)
 case atStart => exact ⟨0, rfl, by omega, ⟨.refl _ _⟩, ⟨rfl⟩⟩
 case round =>
  obtain ⟨i, rfl, hi, hb, ha⟩ := hrel
  by_cases hlt : i < ts.length
  ·have i1 : (i : Int) < ts.length := by omega
   have i3 : (0 : Int) ≤ i := by omega
   obtain ⟨ad, B1, c1, B2, c2, t, rfl, hab, ht, hrt, q0, q1, q2, q3, q4, q5, q6⟩ := (HP.out.up hb.out).get hlt
   obtain ⟨k0, k1, k2, k3, k4, k5, k6⟩ := Wd.at7 q0 q1 q2 q3 q4 q5 q6
   have hst := HS.out.2 t (List.mem_of_getElem? ht.out)
   have C1 := Hd.mk (fun n : Wd wr => rrat_May b0 _ t.c n.w (hrt.out.rat.up n.lo) hst)
   have C2 := Hd.mk (fun n : Wd wr => rrat_Zero b0 _ t.c n.w (hrt.out.rat.up n.lo))
   have C3 := Hd.mk (fun n : Wd wr => rmon_May t.m n.w)
   have HK := Hd.mk (okAt_of (order := order) ht.out)
   clear hst hrt ht q0 q1 q2 q3 q4 q5 q6
   have hcase : ((ratMay t.c = false ∨ (ratMay t.c = true ∧ decide (t.c.num.length = 0) = true) ∨ (ratMay t.c = true ∧ decide (t.c.num.length = 0) = false ∧ monMay t.m = false)) ∧ okAt order ts i = false) ∨
       (ratMay t.c = true ∧ decide (t.c.num.length = 0) = false ∧ monMay t.m = true) := by
    rw [HK.out]
    cases ratMay t.c <;> cases decide (t.c.num.length = 0) <;> cases monMay t.m <;> simp
   rcases hcase with ⟨hc1, hbad⟩ | ⟨g1, g2, g3⟩
   ·have HN := Hd.mk (polMay_no (order := order) hlt hbad)
    clear hbad
    have e46 : True := trivial
    rcases hc1 with g1 | ⟨g1, g2⟩ | ⟨g1, g2, g3⟩
    all_goals
     rw [g1] at C1
     first | rw [g2] at C2 | skip
     first | rw [g3] at C3 | skip
     clear HK
     go_wp2_with fail
     refine wp_region_wd wr (by kernel_rfl) (by kernel_rfl) (Below.refl _ _).drew ?_
     repeat (go_big_quiet_step ((first
      | (go_at_call 83; exact Wd.call (C1.out _))
      | (go_at_call 84; exact Wd.call (C2.out _))
      | (go_at_call 85; exact Wd.call (C3.out _)))))
     refine wd_nil fun nq => ?_
     go_wp2_with fail
     go_ret
     exact ⟨retBool HN.out.symm, goes hb.out nq.lo⟩
   ·rw [g1] at C1 HK
    rw [g2] at C2 HK
    rw [g3] at C3 HK
    clear g1 g2 g3
    rcases Nat.eq_zero_or_pos i with hi0 | hi0
    ·have HE : Hd (okAt order ts i = true) := ⟨by rw [HK.out, decide_eq_true hi0]; rfl⟩
     have z2 : decide (0 < i) = false := decide_eq_false (by omega)
     clear HK hi0
     go_wp2_with fail
     refine wp_region_wd wr (by kernel_rfl) (by kernel_rfl) (Below.refl _ _).drew ?_
     repeat (go_big_quiet_step ((first
      | (go_at_call 83; exact Wd.call (C1.out _))
      | (go_at_call 84; exact Wd.call (C2.out _))
      | (go_at_call 85; exact Wd.call (C3.out _)))))
     refine wd_nil fun nq => ?_
     go_wp2_with fail
     go_roundw
     case measure => first | (simp [intOf]; done) | (simp [intOf]; omega)
     case rel => exact ⟨i + 1, by go_num, by omega, ⟨goes hb.out nq.lo⟩, ⟨all_succ ha.out HE.out⟩⟩
    ·obtain ⟨j, rfl⟩ : ∃ j, i = j + 1 := ⟨i - 1, by omega⟩
     have n1 : IntKind.i64.wrap (((j + 1 : Nat) : Int) - 1) = j := by rw [IntKind.wrap_i64]; omega
     have n2 : (0 : Int) ≤ j := by omega
     have n3 : (j : Int) < ts.length := by omega
     obtain ⟨ad', D1, d1, D2, d2, s, e, _, hs, _, r0, r1, r2, r3, r4, r5, r6⟩ := (HP.out.up hb.out).get (show j < ts.length by omega)
     cases e
     obtain ⟨m0, m1, m2, m3, m4, m5, m6⟩ := Wd.at7 r0 r1 r2 r3 r4 r5 r6
     have C4 := Hd.mk (fun n : Wd wr => rmon_Cmp order s.m t.m n.w)
     have hs' : ts.getD (j + 1 - 1) tz = s := by rw [List.getD_eq_getElem?_getD, show j + 1 - 1 = j from rfl, hs.out]; rfl
     rw [hs'] at HK
     generalize monCmp order s.m t.m = K at C4 HK
     clear r0 r1 r2 r3 r4 r5 r6 hs hs' m0 m1 m2
     by_cases hK : K ≤ 0
     ·have HE := Hd.mk (polMay_no (order := order) hlt (by rw [HK.out, decide_eq_false (show ¬ 0 < K by omega)]; simp))
      clear HK
      go_wp2_with fail
      refine wp_region_wd wr (by kernel_rfl) (by kernel_rfl) (Below.refl _ _).drew ?_
      repeat (go_big_quiet_step ((first
       | (go_at_call 83; exact Wd.call (C1.out _))
       | (go_at_call 84; exact Wd.call (C2.out _))
       | (go_at_call 85; exact Wd.call (C3.out _))
       | (go_at_call 86; exact Wd.call (C4.out _)))))
      refine wd_nil fun nq => ?_
      go_wp2_with fail
      go_ret
      exact ⟨retBool HE.out.symm, goes hb.out nq.lo⟩
     ·have HE : Hd (okAt order ts (j + 1) = true) := ⟨by rw [HK.out, decide_eq_true (show 0 < K by omega)]; simp⟩
      clear HK
      go_wp2_with fail
      refine wp_region_wd wr (by kernel_rfl) (by kernel_rfl) (Below.refl _ _).drew ?_
      repeat (go_big_quiet_step ((first
       | (go_at_call 83; exact Wd.call (C1.out _))
       | (go_at_call 84; exact Wd.call (C2.out _))
       | (go_at_call 85; exact Wd.call (C3.out _))
       | (go_at_call 86; exact Wd.call (C4.out _)))))
      refine wd_nil fun nq => ?_
      go_wp2_with fail
      go_roundw
      case measure => first | (simp [intOf]; done) | (simp [intOf]; omega)
      case rel => exact ⟨j + 1 + 1, by go_num, by omega, ⟨goes hb.out nq.lo⟩, ⟨all_succ ha.out HE.out⟩⟩
  ·obtain rfl : i = ts.length := by omega
   have HE := Hd.mk (HF.out.trans ha.out)
   go_wp2_with fail
   go_ret
   exact ⟨retBool HE.out.symm, hb.out⟩
end Go.Proofs.YtgjkgkgieeoalaaGreat
