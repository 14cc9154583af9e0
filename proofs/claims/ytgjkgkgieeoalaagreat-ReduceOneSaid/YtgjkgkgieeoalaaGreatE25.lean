/- Parts of the proof, joined: each theorem says what it shows. -/
import Derived.Test.YtgjkgkgieeoalaaGreatE01
import Derived.Test.YtgjkgkgieeoalaaGreatE20
import Derived.Test.YtgjkgkgieeoalaaGreatE12
import Derived.Test.YtgjkgkgieeoalaaGreatE18
import Derived.Test.YtgjkgkgieeoalaaGreatE21
set_option linter.unusedVariables false
set_option linter.unusedSimpArgs false
set_option maxHeartbeats 24000000
set_option maxRecDepth 100000
namespace Go.Proofs.YtgjkgkgieeoalaaGreat
open Go.RowKit
def dividesD : List (List TermD) → MonD → Option (Nat × MonD)
 | [], _ => none
 | [] :: l, m => (dividesD l m).map fun x => (x.1 + 1, x.2)
 | (b :: _) :: l, m => if (monDiv m b.m).1 = true then some (0, (monDiv m b.m).2) else (dividesD l m).map fun x => (x.1 + 1, x.2)
def moveD (o : Int) (p b q : List TermD) (k : Nat) (m : MonD) : Int × (List TermD × List TermD) :=
 match p, b with
 | t :: _, u :: _ =>
   if 400 ≤ k then (120, [], []) else
   if (mulD t.c (invD u.c).2).1 ≠ 0 then ((mulD t.c (invD u.c).2).1, [], []) else
   if 60 ≤ q.length then (90, [], []) else
   if (polTimes o b ⟨negD (mulD t.c (invD u.c).2).2, m⟩).1 ≠ 0 then ((polTimes o b ⟨negD (mulD t.c (invD u.c).2).2, m⟩).1, [], []) else
   if (polAdd o [p, (polTimes o b ⟨negD (mulD t.c (invD u.c).2).2, m⟩).2]).1 ≠ 0 then ((polAdd o [p, (polTimes o b ⟨negD (mulD t.c (invD u.c).2).2, m⟩).2]).1, [], []) else
   (0, (polAdd o [p, (polTimes o b ⟨negD (mulD t.c (invD u.c).2).2, m⟩).2]).2, q ++ [⟨(mulD t.c (invD u.c).2).2, m⟩])
 | _, _ => (0, [], [])
def splitF (o : Int) (l : List (List TermD)) : Nat → List TermD → List (List TermD) → List TermD → Nat → Int × List (List TermD) × List TermD
 | 0, _, _, _, _ => (0, [], [])
 | _ + 1, [], qs, r, _ => (0, qs, r)
 | n + 1, t :: p, qs, r, k =>
   match dividesD l t.m with
   | none => if 60 ≤ r.length then (90, [], []) else splitF o l n p qs (r ++ [t]) k
   | some (i, m) =>
     if (moveD o (t :: p) (l.getD i []) (qs.getD i []) k m).1 ≠ 0 then ((moveD o (t :: p) (l.getD i []) (qs.getD i []) k m).1, [], []) else
     splitF o l n (moveD o (t :: p) (l.getD i []) (qs.getD i []) k m).2.1 (qs.set i (moveD o (t :: p) (l.getD i []) (qs.getD i []) k m).2.2) r (k + 1)
def splitD (o : Int) (p : List TermD) (l : List (List TermD)) : Int × List (List TermD) × List TermD :=
 if (polMay o p && decide (l.length ≤ 24) && l.all (polMay o)) = false then (1, [], []) else splitF o l (400 * 61 + 61) p (List.replicate l.length []) [] 0
structure Apg (b0 base : Nat) (w w' : World) (v v' : Value) (ds us : List TermD) : Prop where
 own : OwnT w' b0 base v' (ds ++ us)
 grow : w.grownBy w' v.ownBlock
 at_ : v'.ownBlock = v.ownBlock ∨ v'.ownBlock = some w.heap.size
theorem step_append_G {w : World} {ops : Array Oper} {o : Oper} {a : Act} {K : Act → World → Prop} {Q : Exit → Act → World → Prop} {E : Prop} (hgd : o.guard = none) (s x : Operand) (t : TypeId)
    (ho : o.op = .call { callee := .builtin .append, args := #[s, x], argTypes := #[t, t] }) (ht : Tryz.prog.underlying t = some (.slice 68))
    {b0 base : Nat} {v : Value} {ds us : List TermD} {A : Option Addr} {m c : Nat} (hs : a.eval s = v) (hx : a.eval x = .slice A m c) (hm : m = us.length) (hO : OwnT w b0 base v ds) (hR : RPol w b0 A us)
    (hb : b0 ≤ base) (hlen : ds.length + us.length ≤ 1000000) (hbase : base ≤ w.heap.size)
    (h : ∀ v' w', Apg b0 base w w' v v' ds us → K (a.put o.dst v') w') : if Region.wanted o (yielded ops a.tmps) = true then Oper.wp Tryz.prog o a w K Q else E := by
 subst hm
 obtain ⟨i0, hi0, hz0, hz1, hz2⟩ := info_split Tryz.infTerm
 obtain ⟨cs, o1, o2⟩ := hO
 obtain ⟨ds', r1, r2⟩ := hR
 refine step_append_rdN w hgd s x t ho base 68 i0 _ 7 88 ht hi0 hz0 hz1 hz2 rfl (by decide) v ds.length cs hs o1 _ A us.length c ds' hx r1 r2.one (by unfold maxLen; omega) (by omega) hbase ?_
 intro v' w' h1 hg hat
 exact h v' w' ⟨OwnT.app o1 o2 r2 hb hg h1, hg, hat⟩
end Go.Proofs.YtgjkgkgieeoalaaGreat
namespace Go.Proofs.YtgjkgkgieeoalaaGreat
open Go.RowKit Go.PlainAid
theorem eatK_ge (s : ByteArray) (k : Nat) (c : Int) : k ≤ eatK s k c := by
 have := (skipF_ge s (s.size - k) k).1
 unfold eatK
 split <;> (unfold skipD; omega)
theorem eatK_gt {s : ByteArray} {k : Nat} {c : Int} (h : eatB s k c = true) : k < eatK s k c := by
 have := (skipF_ge s (s.size - k) k).1
 unfold eatK
 rw [if_pos h]
 unfold skipD; omega
theorem numberK_ge {s : ByteArray} {k : Nat} (h : k ≤ s.size) : k ≤ numberK s k := by
 have h1 := (skipF_ge s (s.size - k) k).1
 have h2 := (runD_le (skipD_le h)).1
 unfold numberK
 unfold skipD at *
 omega
theorem factorD_le {s : ByteArray} {k : Nat} {bad : Bool} (h : k ≤ s.size) : k ≤ (factorD s k bad).2.1 ∧ (factorD s k bad).2.1 ≤ s.size := by
 have h0 := (skipF_ge s (s.size - k) k).1
 have h1 := skipD_le h
 unfold factorD
 dsimp only
 have hk1 : k ≤ skipD s k := h0
 split
 ·have a1 := eatK_le (c := bt s (skipD s k)) h1
  have a2 := eatK_ge s (skipD s k) (bt s (skipD s k))
  have b1 := eatK_le (c := 94) a1
  have b2 := eatK_ge s (eatK s (skipD s k) (bt s (skipD s k))) 94
  split
  ·have c1 := numberK_le b1
   have c2 := numberK_ge b1
   exact ⟨ah hk1 (ah a2 (ah b2 c2)), c1⟩
  ·exact ⟨ah hk1 (ah a2 b2), b1⟩
 ·have a1 := numberK_le h1
  have a2 := numberK_ge h1
  have b1 := eatK_le (c := 47) a1
  have b2 := eatK_ge s (numberK s (skipD s k)) 47
  split
  ·have c1 := numberK_le b1
   have c2 := numberK_ge b1
   exact ⟨ah hk1 (ah a2 (ah b2 c2)), c1⟩
  ·exact ⟨ah hk1 (ah a2 b2), b1⟩
def facsF (s : ByteArray) : Nat → List FacD → Nat → Bool → List FacD × Nat × Bool
 | 0, fs, k, bad => (fs, k, bad)
 | n + 1, fs, k, bad =>
   if bad = true then (fs, k, bad) else
   if eatB s k 42 = true then facsF s n (fs ++ [(factorD s (eatK s k 42) bad).1]) (factorD s (eatK s k 42) bad).2.1 (factorD s (eatK s k 42) bad).2.2 else (fs, eatK s k 42, bad)
structure ProdD where
 neg : Bool
 fs : List FacD
def productD (s : ByteArray) (k : Nat) (bad neg : Bool) : ProdD × Nat × Bool :=
 let x := factorD s k bad
 let y := facsF s (s.size + 1) [x.1] x.2.1 x.2.2
 (⟨neg, y.1⟩, y.2.1, y.2.2)
def cellsF (fs : List FacD) : List Value := fs.flatMap fun f => [.int .i64 f.var, .string f.up, .string f.down]
def OwnF (w : World) (base : Nat) (v : Value) (fs : List FacD) : Prop := w.ownsRow base 292 3 v fs.length (cellsF fs)
theorem Tryz.stPro : isStruct (Tryz.prog.underlying 251) = true := by kernel_rfl
theorem Tryz.szPro : (Tryz.prog.info? 251).map (·.size) = some 2 := by kernel_rfl
theorem res_pro {fn : Func} {p : Tmp} (h : fn.results = #[.cell p 251]) (tmps : Array Value) (w : World) (g : Nat) (cs : Array Value) (hp : tmps.getD p undef = .pointer (some ⟨g, 0, none⟩)) (hk : Bk w g 251 cs) (hc : cs.size = 2) :
    (results fn tmps).run Tryz.prog w = .ok (.agg cs) w := by
 obtain ⟨f, h1⟩ := st_of Tryz.stPro
 exact results_cell_row h tmps w g _ cs (0, 0) (.struct f) hp hk h1 rfl (by rw [hc]; exact Tryz.szPro)
theorem Tryz.slFac : Tryz.prog.underlying 249 = some (.slice 292) := by kernel_rfl
theorem Tryz.infFac : (Tryz.prog.info? 292).map (fun i => (i.zero, i.size, i.bytes)) = some (some (.agg #[.int .i64 0, .string ⟨#[]⟩, .string ⟨#[]⟩]), 3, 40) := by kernel_rfl
theorem Bk.two' {w : World} {g : Nat} {t : TypeId} {v0 v1 : Value} (h : Bk w g t #[v0, v1]) : w.cell? ⟨g, 0, none⟩ = some v0 ∧ w.cell? ⟨g, 1, none⟩ = some v1 := by
 refine ⟨?_, ?_⟩ <;> (rw [h.cell]; rfl)
theorem gb_new {w w1 w2 : World} {row r2 : Option Nat} (h : w.grownBy w1 row) (k : w1.grownBy w2 r2) (hr : ∀ b, r2 = some b → w.heap.size ≤ b) : w.grownBy w2 row :=
 ⟨k.os.trans h.os, k.tape.trans h.tape, k.output.trans h.output, ah h.size k.size, fun b hb hne => (k.block b (Nat.lt_of_lt_of_le hb h.size) (fun e => absurd hb (Nat.not_lt.2 (hr b e.symm)))).trans (h.block b hb hne)⟩
theorem OwnF.up {w w' : World} {base : Nat} {v : Value} {fs : List FacD} (h : OwnF w base v fs) (hb : Below w.heap.size w w') : OwnF w' base v fs := own_below h hb
theorem OwnF.grown {w w' : World} {base g : Nat} {v : Value} {fs : List FacD} {t : TypeId} {cs : Array Value} (h : OwnF w base v fs) (hg : w.grownBy w' (some g)) (hk : Bk w g t cs) (ht : t ≠ 292) : OwnF w' base v fs :=
 World.ownsRow.kept h hg (by
  cases e : v.ownBlock with
  | none => exact .inl rfl
  | some b =>
    refine .inr fun e2 => ?_
    obtain ⟨⟨ds, hk2⟩, _⟩ := own_bk h e
    injection e2 with e2
    exact Bk.ne_ hk hk2 ht e2.symm)
theorem OwnF.ne {w : World} {base g : Nat} {v : Value} {fs : List FacD} {t : TypeId} {cs : Array Value} (h : OwnF w base v fs) (hk : Bk w g t cs) (ht : t ≠ 292) : some g ≠ v.ownBlock := fun e => by
 obtain ⟨⟨ds, hk2⟩, _⟩ := own_bk h e.symm
 exact Bk.ne_ hk hk2 ht rfl
theorem cellsF_app (fs : List FacD) (f : FacD) : cellsF (fs ++ [f]) = cellsF fs ++ [.int .i64 f.var, .string f.up, .string f.down] := by simp [cellsF]
theorem OwnF.one {w : World} {base : Nat} (f : FacD) (hb : base ≤ w.heap.size) : OwnF (w.alloc (.cells f.v 292)) base (.slice (some ⟨w.heap.size, 0, none⟩) 1 1) [f] :=
 World.ownsRow_lit (e := 292) (size := 3) w f.v 1 hb (by unfold maxLen; omega) rfl
theorem OwnF.reads {w : World} {base : Nat} {v : Value} {fs : List FacD} (h : OwnF w base v fs) : ∃ A c, v = .slice A fs.length c ∧ fs.length ≤ c ∧ c ≤ maxLen := by
 rcases h.2 with ⟨rfl, h0⟩ | ⟨g, cap, cur, rfl, _, _, h4, h5, _⟩
 ·exact ⟨none, 0, by rw [h0], by omega, by unfold maxLen; omega⟩
 ·exact ⟨_, cap, rfl, h4, h5⟩
theorem text_product (s : ByteArray) (k g : Nat) (bad neg : Bool) (w : World) (hk : Bk w g 244 (tx s k bad)) (hs : s.size ≤ 1000000) (hks : k ≤ s.size) :
    Calls Tryz.prog 265 #[.pointer (some ⟨g, 0, none⟩), .bool neg] w fun e w' => ∃ v, e = .returned (.agg #[.bool (productD s k bad neg).1.neg, v]) ∧ OwnF w' w.heap.size v (productD s k bad neg).1.fs ∧ Bk w' g 244 (tx s (productD s k bad neg).2.1 (productD s k bad neg).2.2) ∧ w.grownBy w' (some g) := by
 obtain ⟨E, hE⟩ : ∃ E, productD s k bad neg = E := ⟨_, rfl⟩
 rw [hE]
 have HE := aa hE
 clear hE
 unfold productD at HE
 dsimp only at HE
 have hsm : s.size ≤ maxLen := by unfold maxLen; omega
 have CF := aa (fun W (hW : Bk W g 244 (tx s k bad)) => text_factor s k g bad W hW hsm hks)
 have hX2 := factorD_le (bad := bad) hks
 obtain ⟨X, hX⟩ : ∃ X, factorD s k bad = X := ⟨_, rfl⟩
 rw [hX] at CF HE hX2
 obtain ⟨F1, k1, bad1⟩ := X
 dsimp only [FacD.v] at CF HE hX2
 have HX2 := aa hX2
 have HK := aa hk
 have hgl := hk.lt
 clear hX hX2 hk
 go_enter Tryz.func265, Tryz.ntmps265
 go_upto_region 1 with (fail)
 refine wp_gen (fun W => Bk W g 244 (tx s k bad) ∧ Bk W w.heap.size 251 #[.bool false, .slice none 0 0] ∧ w.grownBy W (some g)) ⟨HK.out.al _, Bk.new_ _ _ _, gb_of ((ag _ _).alloc (ae _) _)⟩ ?_
 intro W hW
 have hne : some w.heap.size ≠ some g := fun e => by injection e with e; omega
 obtain ⟨gr, hgr⟩ : ∃ gr, w.heap.size = gr := ⟨_, rfl⟩
 have HGR : Hd (w.heap.size ≤ gr ∧ some gr ≠ some g) := ⟨by omega, by rw [← hgr]; exact hne⟩
 rw [hgr] at hW ⊢
 have HB := aa hW.out.1
 have HR := aa hW.out.2.1
 have HG := aa hW.out.2.2
 have HGE := aa hgr
 clear hW hne hgl HK hgr
 go_wp2_with fail
 refine (CF.out _ HB.out).mono ?_
 rintro e w2 ⟨rfl, hb2, hg2⟩
 have HB2 := aa hb2
 have HR2 := aa (HR.out.grown hg2 HGR.out.2)
 have HG2 := aa (gb_trans HG.out hg2)
 clear hb2 hg2 HB HR HG CF
 go_upto_region 2 with (fail)
 obtain ⟨Y, hY⟩ : ∃ Y, facsF s (s.size + 1) [F1] k1 bad1 = Y := ⟨_, rfl⟩
 have HY := aa hY
 rw [hY] at HE
 clear hY
 have HO2 := OwnF.one (base := gr) F1 (by have := HG2.out.size; have := HGE.out; omega : gr ≤ w2.heap.size)
 dsimp only [FacD.v] at HO2
 refine wp_gen (fun W => Bk W g 244 (tx s k1 bad1) ∧ Bk W gr 251 #[.bool false, .slice none 0 0] ∧ w.grownBy W (some g) ∧ OwnF W gr (.slice (some ⟨w2.heap.size, 0, none⟩) 1 1) [F1] ∧ Bk W (w2.heap.size + 1) 251 #[.bool neg, .slice (some ⟨w2.heap.size, 0, none⟩) 1 1]) ⟨(HB2.out.al _).al _, (HR2.out.al _).al _, gb_trans HG2.out (gb_of (((ag _ _).alloc (ae _) _).alloc (by simp) _)), HO2.up ((ag _ _).alloc (ae _) _), Bk.new2 _ _ _ _⟩ ?_
 intro W3 hW
 have hgp : gr < w2.heap.size + 1 ∧ g < w2.heap.size + 1 := ⟨Nat.lt_succ_of_lt HR2.out.lt, Nat.lt_succ_of_lt HB2.out.lt⟩
 generalize w2.heap.size + 1 = gp at hW hgp ⊢
 generalize w2.heap.size = gf at hW ⊢
 have HGP : Hd (gr < gp ∧ some gp ≠ some g ∧ some gr ≠ some gp) := ⟨hgp.1, fun e => by injection e with e; omega, fun e => by injection e with e; omega⟩
 have HB3 := aa hW.out.1
 have HR3 := aa hW.out.2.1
 have HG3 := aa hW.out.2.2.1
 have HO3 := aa hW.out.2.2.2.1
 have HP3 := aa hW.out.2.2.2.2
 clear hW hgp HB2 HR2 HG2 HO2
 go_loopg [11] (s.size + 1) (fun n _ wr => ∃ (v : Value) (fs : List FacD) (kk : Nat) (bb : Bool), kk ≤ s.size ∧ Hd (Bk wr g 244 (tx s kk bb)) ∧ Hd (Bk wr gr 251 #[.bool false, .slice none 0 0]) ∧ Hd (w.grownBy wr (some g)) ∧ Hd (OwnF wr gr v fs) ∧ Hd (Bk wr gp 251 #[.bool neg, v]) ∧ Hd (facsF s n fs kk bb = Y) ∧ Hd (fs.length + (s.size - kk) ≤ s.size + 1) ∧ Hd (s.size - kk < n))
 case atStart => exact ⟨_, [F1], k1, bad1, HX2.out.2, HB3, HR3, HG3, HO3, HP3, HY, ⟨by simp; omega⟩, ⟨by omega⟩⟩
 case round =>
  clear HB3 HR3 HG3 HO3 HP3 HY
  obtain ⟨v, fs, kk, bb, hkk, HB, HR, HG, HO, HP, HY, HL, HN⟩ := hrel
  obtain ⟨n, rfl⟩ : ∃ n, gk = n + 1 := ⟨gk - 1, by have := HN.out; omega⟩
  obtain ⟨Av, cv, rfl, hcv, hcm⟩ := HO.out.reads
  obtain ⟨q0, q1, q2⟩ := HB.out.three
  cases bb
  ·have CE := aa (text_eat s kk g false 42 wr HB.out hsm hkk)
   have h3 := eatK_le (c := 42) hkk
   cases he : eatB s kk 42
   ·have HT : Hd (Y = (fs, eatK s kk 42, false)) := ⟨by rw [← HY.out]; unfold facsF; rw [he]; rfl⟩
    rw [he] at CE
    clear he
    go_wp2_with fail
    refine CE.out.mono ?_
    rintro e w5 ⟨rfl, hb5, hg5⟩
    have HB5 := aa hb5
    have HR5 := aa (HR.out.grown hg5 HGR.out.2)
    have HP5 := aa (HP.out.grown hg5 HGP.out.2.1)
    have HO5 := aa (HO.out.grown hg5 HB.out (by decide))
    have HG5 := aa (gb_trans HG.out hg5)
    clear hb5 hg5 CE q0 q1 q2 HB HR HP HO HG
    obtain ⟨p0, p1⟩ := HP5.out.two'
    obtain ⟨r0, r1⟩ := HR5.out.two'
    have fz := fun i => HR5.out.froz i
    go_wp2_with fail
    refine bodyPost_ret (res_pro rfl _ _ gr _ rfl ((HR5.out.set_ 0 _).set_ 1 _) rfl) rfl ?_
    rw [HE.out.symm, HT.out]
    have hset : w5.grownBy ((w5.setCell ⟨gr, 0, none⟩ (.bool neg)).setCell ⟨gr, 1, none⟩ (.slice Av fs.length cv)) (some gr) := (set_grown w5 ⟨gr, 0, none⟩ _).set 1 _
    exact ⟨_, rfl, by rw [HGE.out]; exact HO5.out.grown hset HR5.out (by decide), HB5.out.grown hset (fun e => HGR.out.2 e.symm), gb_set (gb_set HG5.out HGR.out.1 _ _) HGR.out.1 _ _⟩
   ·obtain ⟨X, hX⟩ : ∃ X, factorD s (eatK s kk 42) false = X := ⟨_, rfl⟩
    have HT : Hd (facsF s n (fs ++ [X.1]) X.2.1 X.2.2 = Y) := ⟨by rw [← HY.out]; conv => rhs; unfold facsF; rw [if_neg (by simp), if_pos he, hX]⟩
    have hgt := eatK_gt he
    have hX2 := factorD_le (bad := false) h3
    rw [he] at CE
    obtain ⟨kq, hkq⟩ : ∃ kq, eatK s kk 42 = kq := ⟨_, rfl⟩
    rw [hkq] at CE hX h3 hgt hX2
    rw [hX] at hX2
    have CF := aa (fun W (hW : Bk W g 244 (tx s kq false)) => text_factor s kq g false W hW hsm h3)
    rw [hX] at CF
    obtain ⟨F2, k2, bad2⟩ := X
    dsimp only [FacD.v] at CF HT hX2
    have HXK := aa hX2
    clear he hkq hX hX2
    go_wp2_with fail
    refine CE.out.mono ?_
    rintro e w5 ⟨rfl, hb5, hg5⟩
    have HB5 := aa hb5
    have HR5 := aa (HR.out.grown hg5 HGR.out.2)
    have HP5 := aa (HP.out.grown hg5 HGP.out.2.1)
    have HO5 := aa (HO.out.grown hg5 HB.out (by decide))
    have HG5 := aa (gb_trans HG.out hg5)
    clear hb5 hg5 CE q0 q1 q2 HB HR HP HO HG
    go_wp2_with fail
    have HS5 : Hd (w5.drew.cell? ⟨gp, 1, none⟩ = some (.slice Av fs.length cv)) := ⟨HP5.out.two'.2⟩
    refine wp_region_head 3 6 (fun W => W.cell? ⟨gp, 1, none⟩ = some (.slice Av fs.length cv)) (by kernel_rfl) (by kernel_rfl) (fun c a d v w h => by cases d <;> exact h) HS5.out ?_
    simp only [List.take_succ_cons, List.take_zero, List.drop_succ_cons, List.drop_zero]
    iterate 3 (refine ⟨?_, Or.inl ⟨by rfl, ?_⟩, ?_⟩; rotate_left; (intro W hW; go_simp; try with_reducible rfl); simp only [Act.put, List.setIfInBounds_toArray, List.set_cons_zero, List.set_cons_succ])
    refine wpHead_nil ?_
    change wpTail _ _ _ _ _ _ _ _ _
    refine wpTail_step (fun K hK => ?_)
    go_simp
    refine (CF.out _ HB5.out.d1).mono ?_
    rintro e w6 ⟨rfl, hb6, hg6⟩
    have HB6 := aa hb6
    have hg56 := gb_trans (gb_dn (gb_of (ag w5.heap.size w5)) 1) hg6
    have HR6 := aa (HR5.out.grown hg56 HGR.out.2)
    have HP6 := aa (HP5.out.grown hg56 HGP.out.2.1)
    have HO6 := aa (HO5.out.grown hg56 HB5.out (by decide))
    have HG6 := aa (gb_trans HG5.out hg56)
    refine hK _ _ (fun _ => HP6.out.two'.2) ?_
    clear hK K hb6 hg6 hg56 HB5 HR5 HP5 HO5 HG5 HS5 CF
    refine wpTail_step (fun K hK => ?_)
    go_simp
    refine hK _ _ (fun _ => cell_up HP6.out.two'.2 ((ag _ _).alloc (ae _) _)) ?_
    clear hK K
    have hbg : gr ≤ w6.heap.size := by have := HG6.out.size; have := HGE.out; omega
    have HO7 := aa (HO6.out.up ((ag w6.heap.size w6).alloc (ae _) (.cells #[.int .i64 F2.var, .string F2.up, .string F2.down] 292)))
    have HP7 := aa (HP6.out.al (.cells #[.int .i64 F2.var, .string F2.up, .string F2.down] 292))
    have HR7 := aa (HR6.out.al (.cells #[.int .i64 F2.var, .string F2.up, .string F2.down] 292))
    have HB7 := aa (HB6.out.al (.cells #[.int .i64 F2.var, .string F2.up, .string F2.down] 292))
    have HG7 := aa (gb_trans HG6.out (gb_of ((ag w6.heap.size w6).alloc (ae _) (.cells #[.int .i64 F2.var, .string F2.up, .string F2.down] 292))))
    have RN := aa (Rd.new_ w6 #[.int .i64 F2.var, .string F2.up, .string F2.down] 292 1 3 rfl)
    have H1 : Hd (∀ u ∈ [Value.int .i64 F2.var, .string F2.up, .string F2.down], u.oneCell' = true) := ⟨fun u hu => by
     simp only [List.mem_cons, List.not_mem_nil, or_false] at hu
     rcases hu with rfl | rfl | rfl <;> rfl⟩
    obtain ⟨i0, hi0, hz0, hz1, hz2⟩ := info_split Tryz.infFac
    have hfl : fs.length ≤ 1000001 := by have := HL.out; omega
    have HX1 : Hd (fs.length + 1 ≤ maxLen ∧ (fs.length + 1) * 40 ≤ 140737488355328) := ⟨by unfold maxLen; omega, by omega⟩
    refine wpTail_step (fun K hK => ?_)
    refine step_append_rdN _ rfl _ _ 249 rfl gr 292 i0 _ 3 40 Tryz.slFac hi0 hz0 hz1 hz2 rfl (by decide) _ fs.length (cellsF fs) rfl HO7.out _ _ 1 1 _ rfl RN.out H1.out HX1.out.1 HX1.out.2 (by simp; omega) ?_
    intro v' w8 ho8 hg8 hat8
    have HO8 : Hd (OwnF w8 gr v' (fs ++ [F2])) := ⟨by unfold OwnF; rw [cellsF_app, List.length_append]; exact ho8⟩
    have HB8 := aa (HB7.out.grown hg8 (HO7.out.ne HB7.out (by decide)))
    have HR8 := aa (HR7.out.grown hg8 (HO7.out.ne HR7.out (by decide)))
    have HP8 := aa (HP7.out.grown hg8 (HO7.out.ne HP7.out (by decide)))
    have HG8 := aa (gb_new HG7.out hg8 (fun b hb => by rw [HGE.out]; exact (own_bk HO7.out hb).2))
    refine hK _ _ (fun _ => HP8.out.two'.2) ?_
    obtain ⟨p0, p1⟩ := HP8.out.two'
    have fz := fun i => HP8.out.froz i
    clear hK K ho8 hg8 hat8 HB6 HR6 HP6 HO6 HG6 HB7 HR7 HP7 HO7 HG7 RN H1 hi0 hz0 hz1 hz2 HX1 hbg
    have hNl : (fs ++ [F2]).length = fs.length + 1 := by simp
    obtain ⟨N, hN⟩ : ∃ N, fs ++ [F2] = N := ⟨_, rfl⟩
    rw [hN] at HO8 HT hNl
    have HNl := aa hNl
    clear hN hNl
    obtain ⟨A8, c8, rfl, hc8, -⟩ := HO8.out.reads
    refine wpTail_step (fun K hK => ?_)
    go_simp
    refine hK _ _ (fun h => absurd h (by decide)) ?_
    clear hK K
    refine wpTail_step (fun K hK => ?_)
    go_simp
    refine hK _ _ (fun h => absurd h (by decide)) ?_
    clear hK K p0 p1 fz
    refine wpTail_nil ?_
    have hset : w8.grownBy (w8.setCell ⟨gp, 1, none⟩ (.slice A8 N.length c8)) (some gp) := set_grown w8 ⟨gp, 1, none⟩ _
    go_wp2_with fail
    go_roundg n
    case measure => omega
    case rel => exact ⟨_, N, k2, bad2, HXK.out.2, ⟨HB8.out.grown hset (fun e => HGP.out.2.1 e.symm)⟩, ⟨HR8.out.grown hset HGP.out.2.2⟩, ⟨gb_set HG8.out (by have := HGP.out.1; have := HGE.out; omega) _ _⟩, ⟨HO8.out.grown hset HP8.out (by decide)⟩, ⟨HP8.out.set_ 1 _⟩, HT, ⟨by have := HL.out; have := HNl.out; have := HXK.out; omega⟩, ⟨by have := HN.out; have := HXK.out; omega⟩⟩
  ·have HT : Hd (Y = (fs, kk, true)) := ⟨by rw [← HY.out]; rfl⟩
   have HB5 := HB
   have HR5 := HR
   have HP5 := HP
   have HO5 := HO
   have HG5 := HG
   obtain ⟨p0, p1⟩ := HP5.out.two'
   obtain ⟨r0, r1⟩ := HR5.out.two'
   have fz := fun i => HR5.out.froz i
   go_wp2_with fail
   refine bodyPost_ret (res_pro rfl _ _ gr _ rfl ((HR5.out.set_ 0 _).set_ 1 _) rfl) rfl ?_
   rw [HE.out.symm, HT.out]
   have hset : wr.grownBy ((wr.setCell ⟨gr, 0, none⟩ (.bool neg)).setCell ⟨gr, 1, none⟩ (.slice Av fs.length cv)) (some gr) := (set_grown wr ⟨gr, 0, none⟩ _).set 1 _
   exact ⟨_, rfl, by rw [HGE.out]; exact HO5.out.grown hset HR5.out (by decide), HB5.out.grown hset (fun e => HGR.out.2 e.symm), gb_set (gb_set HG5.out HGR.out.1 _ _) HGR.out.1 _ _⟩
theorem facsF_le {s : ByteArray} : ∀ (n : Nat) (fs : List FacD) (k : Nat) (bad : Bool), k ≤ s.size → k ≤ (facsF s n fs k bad).2.1 ∧ (facsF s n fs k bad).2.1 ≤ s.size
 | 0, _, _, _, h => ⟨ae _, h⟩
 | n + 1, fs, k, bad, h => by
   unfold facsF
   have h1 := eatK_le (c := 42) h
   have h2 := eatK_ge s k 42
   split
   ·exact ⟨ae _, h⟩
   ·split
    ·have h3 := factorD_le (bad := bad) h1
     have h4 := facsF_le n (fs ++ [(factorD s (eatK s k 42) bad).1]) _ (factorD s (eatK s k 42) bad).2.2 h3.2
     exact ⟨ah h2 (ah h3.1 h4.1), h4.2⟩
    ·exact ⟨h2, h1⟩
theorem productD_le {s : ByteArray} {k : Nat} {bad neg : Bool} (h : k ≤ s.size) : k ≤ (productD s k bad neg).2.1 ∧ (productD s k bad neg).2.1 ≤ s.size := by
 unfold productD
 have h1 := factorD_le (bad := bad) h
 have h2 := facsF_le (s.size + 1) [(factorD s k bad).1] _ (factorD s k bad).2.2 h1.2
 exact ⟨ah h1.1 h2.1, h2.2⟩
def sumF (s : ByteArray) : Nat → List ProdD → Nat → Bool → List ProdD × Nat × Bool
 | 0, l, k, bad => (l, k, bad)
 | n + 1, l, k, bad =>
   if bad = true then (l, k, bad) else
   if bt s (skipD s k) = 0 then (l, skipD s k, bad) else
   if eatB s (skipD s k) 43 = true then
    let y := productD s (eatK s (skipD s k) 43) bad false
    sumF s n (l ++ [y.1]) y.2.1 y.2.2
   else
    let k2 := eatK s (skipD s k) 43
    if eatB s k2 45 = true then
     let y := productD s (eatK s k2 45) bad true
     sumF s n (l ++ [y.1]) y.2.1 y.2.2
    else (l, eatK s k2 45, true)
def sumD (s : ByteArray) : List ProdD × Bool :=
 let y := productD s (eatK s 0 45) false (eatB s 0 45)
 let z := sumF s (s.size + 1) [y.1] y.2.1 y.2.2
 (z.1, z.2.2 || decide (z.2.1 < s.size))
inductive PCs (w : World) (base : Nat) : List ProdD → List Value → Prop
 | nil : PCs w base [] []
 | cons {p : ProdD} {v : Value} {ps : List ProdD} {cs : List Value} (h : OwnF w base v p.fs) (hs : PCs w base ps cs) : PCs w base (p :: ps) (.bool p.neg :: v :: cs)
theorem PCs.up {w w' : World} {base : Nat} {ps : List ProdD} {cs : List Value} (h : PCs w base ps cs) (hb : Below w.heap.size w w') : PCs w' base ps cs := by
 induction h with
 | nil => exact .nil
 | cons h _ ih => exact .cons (h.up hb) ih
theorem PCs.grown {w w' : World} {base g : Nat} {t : TypeId} {bs : Array Value} {ps : List ProdD} {cs : List Value} (h : PCs w base ps cs) (hg : w.grownBy w' (some g)) (hk : Bk w g t bs) (ht : t ≠ 292) : PCs w' base ps cs := by
 induction h with
 | nil => exact .nil
 | cons h _ ih => exact .cons (h.grown hg hk ht) ih
theorem PCs.app {w : World} {base : Nat} {ps qs : List ProdD} {cs ds : List Value} (h : PCs w base ps cs) (h' : PCs w base qs ds) : PCs w base (ps ++ qs) (cs ++ ds) := by
 induction h with
 | nil => exact h'
 | cons h _ ih => exact .cons h ih
theorem PCs.len {w : World} {base : Nat} {ps : List ProdD} {cs : List Value} (h : PCs w base ps cs) : cs.length = ps.length * 2 := by
 induction h with
 | nil => rfl
 | cons _ _ ih => simp only [List.length_cons, ih]; omega
theorem PCs.get {w : World} {base : Nat} {ps : List ProdD} {cs : List Value} (h : PCs w base ps cs) : ∀ {j : Nat} {p : ProdD}, ps[j]? = some p → ∃ v, cs[j * 2]? = some (.bool p.neg) ∧ cs[j * 2 + 1]? = some v ∧ OwnF w base v p.fs := by
 induction h with
 | nil => intro j p hj; simp at hj
 | @cons p v ps cs h _ ih =>
   intro j q hj
   cases j with
   | zero =>
     simp only [List.getElem?_cons_zero, Option.some.injEq] at hj
     subst hj
     exact ⟨v, rfl, rfl, h⟩
   | succ j =>
     obtain ⟨u, h1, h2, h3⟩ := ih (by simpa using hj)
     refine ⟨u, ?_, ?_, h3⟩
     ·rw [show (j + 1) * 2 = j * 2 + 1 + 1 by omega]; simpa using h1
     ·rw [show (j + 1) * 2 + 1 = j * 2 + 1 + 1 + 1 by omega]; simpa using h2
def OwnP (w : World) (base : Nat) (V : Value) (ps : List ProdD) : Prop := ∃ cs, w.ownsRow base 251 2 V ps.length cs ∧ PCs w base ps cs
theorem OwnP.up {w w' : World} {base : Nat} {v : Value} {ps : List ProdD} (h : OwnP w base v ps) (hb : Below w.heap.size w w') : OwnP w' base v ps := let ⟨cs, h1, h2⟩ := h; ⟨cs, own_below h1 hb, h2.up hb⟩
theorem OwnP.grown {w w' : World} {base g : Nat} {v : Value} {ps : List ProdD} {t : TypeId} {bs : Array Value} (h : OwnP w base v ps) (hg : w.grownBy w' (some g)) (hk : Bk w g t bs) (ht : t ≠ 292) (ht2 : t ≠ 251) : OwnP w' base v ps := by
 obtain ⟨cs, h1, h2⟩ := h
 refine ⟨cs, World.ownsRow.kept h1 hg ?_, h2.grown hg hk ht⟩
 cases e : v.ownBlock with
 | none => exact .inl rfl
 | some b =>
   refine .inr fun e2 => ?_
   obtain ⟨⟨ds, hk2⟩, _⟩ := own_bk h1 e
   injection e2 with e2
   exact Bk.ne_ hk hk2 ht2 e2.symm
theorem OwnP.reads {w : World} {base : Nat} {v : Value} {ps : List ProdD} (h : OwnP w base v ps) : ∃ A c, v = .slice A ps.length c ∧ ps.length ≤ c ∧ c ≤ maxLen := by
 obtain ⟨_, h, _⟩ := h
 rcases h.2 with ⟨rfl, h0⟩ | ⟨g, cap, cur, rfl, _, _, h4, h5, _⟩
 ·exact ⟨none, 0, by rw [h0], by omega, by unfold maxLen; omega⟩
 ·exact ⟨_, cap, rfl, h4, h5⟩
theorem OwnF.low {w : World} {base base' : Nat} {v : Value} {fs : List FacD} (h : OwnF w base v fs) (hb : base' ≤ base) : OwnF w base' v fs := by
 obtain ⟨h1, h2⟩ := h
 refine ⟨h1, ?_⟩
 rcases h2 with h2 | ⟨g, cap, cur, h3, h4, h5⟩
 ·exact .inl h2
 ·exact .inr ⟨g, cap, cur, h3, ah hb h4, h5⟩
theorem OwnP.one {w : World} {base : Nat} {p : ProdD} {v : Value} (h : OwnF w base v p.fs) (hb : base ≤ w.heap.size) : OwnP (w.alloc (.cells #[.bool p.neg, v] 251)) base (.slice (some ⟨w.heap.size, 0, none⟩) 1 1) [p] :=
 ⟨_, World.ownsRow_lit (e := 251) (size := 2) w #[.bool p.neg, v] 1 hb (by unfold maxLen; omega) rfl, .cons (h.up ((ag _ _).alloc (ae _) _)) .nil⟩
theorem Tryz.slPro : Tryz.prog.underlying 245 = some (.slice 251) := by kernel_rfl
theorem Tryz.infPro : (Tryz.prog.info? 251).map (fun i => (i.zero, i.size, i.bytes)) = some (some (.agg #[.bool false, .slice none 0 0]), 2, 32) := by kernel_rfl
theorem OwnF.grownR {w w' : World} {base : Nat} {v : Value} {fs : List FacD} {row : Option Nat} (h : OwnF w base v fs) (hg : w.grownBy w' row) (hr : ∀ b, row = some b → ∃ t bs, Bk w b t bs ∧ t ≠ 292) : OwnF w' base v fs := by
 cases row with
 | none =>
   refine World.ownsRow.kept h hg ?_
   cases e : v.ownBlock with
   | none => exact .inl rfl
   | some b => exact .inr (by simp)
 | some b =>
   obtain ⟨t, bs, hk, ht⟩ := hr b rfl
   exact h.grown hg hk ht
theorem PCs.grownR {w w' : World} {base : Nat} {ps : List ProdD} {cs : List Value} {row : Option Nat} (h : PCs w base ps cs) (hg : w.grownBy w' row) (hr : ∀ b, row = some b → ∃ t bs, Bk w b t bs ∧ t ≠ 292) : PCs w' base ps cs := by
 induction h with
 | nil => exact .nil
 | cons h _ ih => exact .cons (h.grownR hg hr) ih
theorem text_sum (s : ByteArray) (g : Nat) (w : World) (hk : Bk w g 244 (tx s 0 false)) (hs : s.size ≤ 1000000) :
    Calls Tryz.prog 222 #[.pointer (some ⟨g, 0, none⟩)] w fun e w' => ∃ v K, e = .returned v ∧ OwnP w' w.heap.size v (sumD s).1 ∧ Bk w' g 244 (tx s K (sumD s).2) ∧ w.grownBy w' (some g) := by
 obtain ⟨E, hE⟩ : ∃ E, sumD s = E := ⟨_, rfl⟩
 rw [hE]
 have HE := aa hE
 clear hE
 unfold sumD at HE
 dsimp only at HE
 have hsm : s.size ≤ maxLen := by unfold maxLen; omega
 have CE := aa (text_eat s 0 g false 45 w hk hsm (Nat.zero_le _))
 have h1 := eatK_le (s := s) (c := 45) (Nat.zero_le _)
 obtain ⟨k1, hk1⟩ : ∃ k1, eatK s 0 45 = k1 := ⟨_, rfl⟩
 obtain ⟨B, hB⟩ : ∃ B, eatB s 0 45 = B := ⟨_, rfl⟩
 rw [hk1, hB] at CE HE
 rw [hk1] at h1
 have hY2 := productD_le (bad := false) (neg := B) h1
 have CP := aa (fun W (hW : Bk W g 244 (tx s k1 false)) => text_product s k1 g false B W hW hs h1)
 obtain ⟨Y, hY⟩ : ∃ Y, productD s k1 false B = Y := ⟨_, rfl⟩
 rw [hY] at CP HE hY2
 obtain ⟨P1, k2, bad2⟩ := Y
 dsimp only at CP HE hY2
 have HY2 := aa hY2
 have HGL := aa hk.lt
 clear hk hk1 hB hY hY2
 go_enter Tryz.func222, Tryz.ntmps222
 go_wp2_with fail
 refine CE.out.mono ?_
 rintro e w2 ⟨rfl, hb2, hg2⟩
 have HB2 := aa hb2
 have HG2 := aa hg2
 clear hb2 hg2 CE
 go_wp2_with fail
 refine (CP.out _ HB2.out).mono ?_
 rintro e w3 ⟨v, rfl, ho, hb3, hg3⟩
 have HO3 := aa (ho.low HG2.out.size)
 have HB3 := aa hb3
 have HG3 := aa (gb_trans HG2.out hg3)
 clear ho hb3 hg3 CP HB2 HG2
 go_upto_region 2 with (fail)
 obtain ⟨Z, hZ⟩ : ∃ Z, sumF s (s.size + 1) [P1] k2 bad2 = Z := ⟨_, rfl⟩
 rw [hZ] at HE
 have HZ := aa hZ
 clear hZ
 have HO4 := aa (OwnP.one (p := P1) HO3.out HG3.out.size)
 have HB4 := aa (HB3.out.al (.cells #[.bool P1.neg, v] 251))
 have HG4 := aa (gb_trans HG3.out (gb_of ((ag w3.heap.size w3).alloc (ae _) (.cells #[.bool P1.neg, v] 251))))
 generalize w3.alloc (.cells #[.bool P1.neg, v] 251) = w4 at HO4 HB4 HG4 ⊢
 generalize w3.heap.size = g3 at HO4 ⊢
 clear HO3 HB3 HG3
 go_loopg [3] (s.size + 1) (fun n v3 wr => ∃ (ps : List ProdD) (kk : Nat) (bb : Bool), kk ≤ s.size ∧ Hd (Bk wr g 244 (tx s kk bb)) ∧ Hd (w.grownBy wr (some g)) ∧ Hd (OwnP wr w.heap.size v3 ps) ∧ Hd (sumF s n ps kk bb = Z) ∧ Hd (ps.length + (s.size - kk) ≤ s.size + 1) ∧ Hd (bb = false → s.size - kk < n))
 case atStart => exact ⟨[P1], k2, bad2, HY2.out.2, HB4, HG4, HO4, HZ, ⟨by simp; omega⟩, ⟨fun _ => by omega⟩⟩
 case round =>
  clear HB4 HG4 HO4 HZ
  obtain ⟨ps, kk, bb, hkk, HB, HG, HO, HZ, HL, HN⟩ := hrel
  obtain ⟨Av, cv, rfl, hcv, hcm⟩ := HO.out.reads
  obtain ⟨q0, q1, q2⟩ := HB.out.three
  cases bb
  ·obtain ⟨n, rfl⟩ : ∃ n, gk = n + 1 := ⟨gk - 1, by have := HN.out rfl; omega⟩
   have HNN : Hd (s.size - kk < n + 1) := ⟨HN.out rfl⟩
   have CX := aa (text_next s kk g false wr HB.out hsm hkk)
   have hk3 := skipD_le hkk
   have hk3g : kk ≤ skipD s kk := (skipF_ge s (s.size - kk) kk).1
   have HZ1 := HZ.out
   unfold sumF at HZ1
   rw [if_neg (by simp)] at HZ1
   dsimp only at HZ1
   obtain ⟨k3, hkk3⟩ : ∃ k3, skipD s kk = k3 := ⟨_, rfl⟩
   rw [hkk3] at CX hk3 hk3g HZ1
   obtain ⟨c, hc⟩ : ∃ c, bt s k3 = c := ⟨_, rfl⟩
   rw [hc] at CX HZ1
   have HZ1 := aa HZ1
   clear hkk3 hc
   by_cases hc0 : c = 0
   ·have e0 : (c != 0) = false := by rw [hc0]; rfl
    have HT : Hd (Z = (ps, k3, false)) := ⟨by rw [← HZ1.out]; exact if_pos hc0⟩
    clear hc0
    go_wp2_with fail
    refine CX.out.mono ?_
    rintro e w5 ⟨rfl, hb5, hg5⟩
    have HB5 := aa hb5
    have HG5 := aa (gb_trans HG.out hg5)
    have HO5 := aa (HO.out.grown hg5 HB.out (by decide) (by decide))
    obtain ⟨p0, p1, p2⟩ := hb5.three
    clear hb5 hg5 CX q0 q1 q2 HB HG HO
    by_cases hlt : k3 < s.size
    ·have i1 : (k3 : Int) < s.size := by omega
     have HF : Hd (E = (ps, true)) := ⟨by rw [← HE.out, HT.out]; simp [hlt]⟩
     have fz := fun i => HB5.out.froz i
     clear hlt
     go_wp2_with fail
     go_quiet (fail)
     go_wp2_with fail
     go_ret
     rw [HF.out]
     exact ⟨_, k3, rfl, HO5.out.up (Below.dn (ag _ _) _) |>.grown (set_grown _ ⟨g, 2, none⟩ _) (HB5.out.dn _) (by decide) (by decide), (HB5.out.dn _).set_ 2 _, (gb_dn HG5.out _).set 2 _⟩
    ·have i1 : ¬ (k3 : Int) < s.size := by omega
     have HF : Hd (E = (ps, false)) := ⟨by rw [← HE.out, HT.out]; simp [hlt]⟩
     clear hlt
     go_wp2_with fail
     go_quiet (fail)
     go_wp2_with fail
     go_ret
     rw [HF.out]
     exact ⟨_, k3, rfl, HO5.out.up (Below.dn (ag _ _) _), HB5.out.dn _, gb_dn HG5.out _⟩
   ·have e0 : (c != 0) = true := by rw [bne_iff_ne]; exact hc0
    have HZ2 := aa (HZ1.out.symm.trans (if_neg hc0)).symm
    clear hc0 HZ1
    go_wp2_with fail
    refine CX.out.mono ?_
    rintro e w5 ⟨rfl, hb5, hg5⟩
    have HB5 := aa hb5
    have HG5 := aa (gb_trans HG.out hg5)
    have HO5 := aa (HO.out.grown hg5 HB.out (by decide) (by decide))
    clear hb5 hg5 CX q0 q1 q2 HB HG HO
    have CE := aa (text_eat s k3 g false 43 w5 HB5.out hsm hk3)
    have h7 := eatK_le (c := 43) hk3
    have h7g := eatK_ge s k3 43
    cases he : eatB s k3 43
    ·have HZ3' := HZ2.out
     rw [if_neg (by rw [he]; simp)] at HZ3'
     rw [he] at CE
     obtain ⟨k7, hk7⟩ : ∃ k7, eatK s k3 43 = k7 := ⟨_, rfl⟩
     rw [hk7] at CE h7 h7g HZ3'
     have HZ4 := aa HZ3'
     clear he hk7 HZ3'
     go_wp2_with fail
     refine CE.out.mono ?_
     rintro e w7 ⟨rfl, hb7, hg7⟩
     have HB6 := aa hb7
     have HG6 := aa (gb_trans HG5.out hg7)
     have HO6 := aa (HO5.out.grown hg7 HB5.out (by decide) (by decide))
     clear hb7 hg7 CE HB5 HG5 HO5 HZ2
     have CE := aa (text_eat s k7 g false 45 w7 HB6.out hsm h7)
     have h6 := h7
     have h7 := eatK_le (c := 45) h6
     have h9g := eatK_ge s k7 45
     cases he : eatB s k7 45
     ·have HT : Hd (Z = (ps, eatK s k7 45, true)) := ⟨by rw [← HZ4.out, if_neg (by rw [he]; simp)]⟩
      rw [he] at CE
      clear he
      go_wp2_with fail
      refine CE.out.mono ?_
      rintro e wq ⟨rfl, hb7, hg7⟩
      have HB7 := aa hb7
      have HG7 := aa (gb_trans HG6.out hg7)
      have HO7 := aa (HO6.out.grown hg7 HB6.out (by decide) (by decide))
      have fz := fun i => HB7.out.froz i
      obtain ⟨p0, p1, p2⟩ := HB7.out.three
      obtain ⟨kz, hkz⟩ : ∃ kz, eatK s k7 45 = kz := ⟨_, rfl⟩
      rw [hkz] at HT HB7 h7 h9g p1
      clear hb7 hg7 CE hkz
      go_wp2_with fail
      go_roundg n
      case measure => omega
      case rel => exact ⟨ps, kz, true, h7, ⟨HB7.out.set_ 2 _⟩, ⟨HG7.out.set 2 _⟩, ⟨HO7.out.grown (set_grown _ ⟨g, 2, none⟩ _) HB7.out (by decide) (by decide)⟩, ⟨by rw [HT.out]; cases n <;> rfl⟩, ⟨by have := HL.out; omega⟩, ⟨fun h => by cases h⟩⟩
     ·have hgt := eatK_gt he
      have HZ3 := HZ4.out
      rw [if_pos he] at HZ3
      rw [he] at CE
      obtain ⟨k9, hk9⟩ : ∃ k9, eatK s k7 45 = k9 := ⟨_, rfl⟩
      rw [hk9] at CE h7 h9g HZ3 hgt
      clear he hk9
      go_wp2_with fail
      refine CE.out.mono ?_
      rintro e wq ⟨rfl, hb7, hg7⟩
      have HB7 := aa hb7
      have HG7 := aa (gb_trans HG6.out hg7)
      have HO7 := aa (HO6.out.grown hg7 HB6.out (by decide) (by decide))
      clear hb7 hg7 CE HB6 HG6 HO6 HZ4
      have CP := aa (text_product s k9 g false true wq HB7.out hs h7)
      have hY2 := productD_le (bad := false) (neg := true) h7
      obtain ⟨Y, hY⟩ : ∃ Y, productD s k9 false true = Y := ⟨_, rfl⟩
      rw [hY] at CP HZ3 hY2
      obtain ⟨P2, k8, bad8⟩ := Y
      dsimp only at CP HZ3 hY2
      have HYY := aa hY2
      clear hY hY2
      go_wp2_with fail
      refine CP.out.mono ?_
      rintro e w8 ⟨v8, rfl, ho8, hb8, hg8⟩
      have HOF := aa (ho8.low HG7.out.size)
      have HB8 := aa hb8
      have HG8 := aa (gb_trans HG7.out hg8)
      have HO8 := aa (HO7.out.grown hg8 HB7.out (by decide) (by decide))
      clear ho8 hb8 hg8 CP HB7 HG7 HO7
      obtain ⟨cs, hc1, hc2⟩ := (HO8.out.up ((ag w8.heap.size w8).alloc (ae _) (.cells #[.bool P2.neg, v8] 251)))
      have HC1 := aa hc1
      have HC2 := aa hc2
      have RN := aa (Rd.new_ w8 #[.bool P2.neg, v8] 251 1 2 rfl)
      have H1 : Hd (∀ u ∈ [Value.bool P2.neg, v8], u.oneCell' = true) := ⟨fun u hu => by
       simp only [List.mem_cons, List.not_mem_nil, or_false] at hu
       obtain ⟨A9, c9, e9, _⟩ := HOF.out.reads
       rcases hu with rfl | rfl
       ·rfl
       ·rw [e9]; rfl⟩
      obtain ⟨i0, hi0, hz0, hz1, hz2⟩ := info_split Tryz.infPro
      have hpl : ps.length ≤ 1000001 := by have := HL.out; omega
      have HX1 : Hd (ps.length + 1 ≤ maxLen ∧ (ps.length + 1) * 32 ≤ 140737488355328) := ⟨by unfold maxLen; omega, by omega⟩
      clear hc1 hc2
      go_wp2_with (at_builtin; refine wpList_append_rd _ rfl _ _ 245 rfl w.heap.size 251 i0 _ 2 32 Tryz.slPro hi0 hz0 hz1 hz2 rfl (by decide) _ ps.length cs rfl HC1.out _ _ 1 1 _ rfl RN.out H1.out HX1.out.1 HX1.out.2 (by have := HG8.out.size; simp; omega) ?_)
      intro v9 w9 ho9 hg9 _
      have hrow : ∀ b, (Value.slice Av ps.length cv).ownBlock = some b → ∃ t bs, Bk (w8.alloc (.cells #[.bool P2.neg, v8] 251)) b t bs ∧ t ≠ 292 := fun b hb => by
       obtain ⟨⟨ds, hk⟩, _⟩ := own_bk HC1.out hb
       exact ⟨_, ds, hk, by decide⟩
      have hpr : ∀ b, (Value.slice Av ps.length cv).ownBlock = some b → w.heap.size ≤ b := fun b hb => (own_bk HC1.out hb).2
      have hne : some g ≠ (Value.slice Av ps.length cv).ownBlock := fun e => by
       obtain ⟨⟨ds, hk⟩, _⟩ := own_bk HC1.out e.symm
       exact Bk.ne_ (HB8.out.al _) hk (by decide) rfl
      have HO9 : Hd (OwnP w9 w.heap.size v9 (ps ++ [P2])) := ⟨_, by rw [List.length_append]; exact ho9, (HC2.out.grownR hg9 hrow).app (.cons ((HOF.out.up ((ag w8.heap.size w8).alloc (ae _) _)).grownR hg9 hrow) .nil)⟩
      have HB9 := aa ((HB8.out.al (.cells #[.bool P2.neg, v8] 251)).grown hg9 hne)
      have HG9 := aa (gb_new (gb_trans HG8.out (gb_of ((ag w8.heap.size w8).alloc (ae _) _))) hg9 hpr)
      have HZ9 := aa HZ3
      clear HC1 HC2 RN H1 ho9 hg9 hrow hpr hne HO8 HB8 HG8 HOF hi0 hz0 hz1 hz2 HZ3
      go_wp2_with fail
      go_roundg n
      case measure => omega
      case rel => exact ⟨_, k8, bad8, HYY.out.2, HB9, HG9, HO9, HZ9, ⟨by have := HL.out; have := HYY.out; simp; omega⟩, ⟨fun _ => by have := HNN.out; have := HYY.out; omega⟩⟩
    ·have hgt := eatK_gt he
     have HZ3 := HZ2.out
     rw [if_pos he] at HZ3
     rw [he] at CE
     obtain ⟨k7, hk7⟩ : ∃ k7, eatK s k3 43 = k7 := ⟨_, rfl⟩
     rw [hk7] at CE h7 h7g HZ3 hgt
     clear he hk7
     go_wp2_with fail
     refine CE.out.mono ?_
     rintro e w7 ⟨rfl, hb7, hg7⟩
     have HB7 := aa hb7
     have HG7 := aa (gb_trans HG5.out hg7)
     have HO7 := aa (HO5.out.grown hg7 HB5.out (by decide) (by decide))
     clear hb7 hg7 CE HB5 HG5 HO5 HZ2
     have CP := aa (text_product s k7 g false false w7 HB7.out hs h7)
     have hY2 := productD_le (bad := false) (neg := false) h7
     obtain ⟨Y, hY⟩ : ∃ Y, productD s k7 false false = Y := ⟨_, rfl⟩
     rw [hY] at CP HZ3 hY2
     obtain ⟨P2, k8, bad8⟩ := Y
     dsimp only at CP HZ3 hY2
     have HYY := aa hY2
     clear hY hY2
     go_wp2_with fail
     refine CP.out.mono ?_
     rintro e w8 ⟨v8, rfl, ho8, hb8, hg8⟩
     have HOF := aa (ho8.low HG7.out.size)
     have HB8 := aa hb8
     have HG8 := aa (gb_trans HG7.out hg8)
     have HO8 := aa (HO7.out.grown hg8 HB7.out (by decide) (by decide))
     clear ho8 hb8 hg8 CP HB7 HG7 HO7
     obtain ⟨cs, hc1, hc2⟩ := (HO8.out.up ((ag w8.heap.size w8).alloc (ae _) (.cells #[.bool P2.neg, v8] 251)))
     have HC1 := aa hc1
     have HC2 := aa hc2
     have RN := aa (Rd.new_ w8 #[.bool P2.neg, v8] 251 1 2 rfl)
     have H1 : Hd (∀ u ∈ [Value.bool P2.neg, v8], u.oneCell' = true) := ⟨fun u hu => by
      simp only [List.mem_cons, List.not_mem_nil, or_false] at hu
      obtain ⟨A9, c9, e9, _⟩ := HOF.out.reads
      rcases hu with rfl | rfl
      ·rfl
      ·rw [e9]; rfl⟩
     obtain ⟨i0, hi0, hz0, hz1, hz2⟩ := info_split Tryz.infPro
     have hpl : ps.length ≤ 1000001 := by have := HL.out; omega
     have HX1 : Hd (ps.length + 1 ≤ maxLen ∧ (ps.length + 1) * 32 ≤ 140737488355328) := ⟨by unfold maxLen; omega, by omega⟩
     clear hc1 hc2
     go_wp2_with (at_builtin; refine wpList_append_rd _ rfl _ _ 245 rfl w.heap.size 251 i0 _ 2 32 Tryz.slPro hi0 hz0 hz1 hz2 rfl (by decide) _ ps.length cs rfl HC1.out _ _ 1 1 _ rfl RN.out H1.out HX1.out.1 HX1.out.2 (by have := HG8.out.size; simp; omega) ?_)
     intro v9 w9 ho9 hg9 _
     have hrow : ∀ b, (Value.slice Av ps.length cv).ownBlock = some b → ∃ t bs, Bk (w8.alloc (.cells #[.bool P2.neg, v8] 251)) b t bs ∧ t ≠ 292 := fun b hb => by
      obtain ⟨⟨ds, hk⟩, _⟩ := own_bk HC1.out hb
      exact ⟨_, ds, hk, by decide⟩
     have hpr : ∀ b, (Value.slice Av ps.length cv).ownBlock = some b → w.heap.size ≤ b := fun b hb => (own_bk HC1.out hb).2
     have hne : some g ≠ (Value.slice Av ps.length cv).ownBlock := fun e => by
      obtain ⟨⟨ds, hk⟩, _⟩ := own_bk HC1.out e.symm
      exact Bk.ne_ (HB8.out.al _) hk (by decide) rfl
     have HO9 : Hd (OwnP w9 w.heap.size v9 (ps ++ [P2])) := ⟨_, by rw [List.length_append]; exact ho9, (HC2.out.grownR hg9 hrow).app (.cons ((HOF.out.up ((ag w8.heap.size w8).alloc (ae _) _)).grownR hg9 hrow) .nil)⟩
     have HB9 := aa ((HB8.out.al (.cells #[.bool P2.neg, v8] 251)).grown hg9 hne)
     have HG9 := aa (gb_new (gb_trans HG8.out (gb_of ((ag w8.heap.size w8).alloc (ae _) _))) hg9 hpr)
     have HZ9 := aa HZ3
     clear HC1 HC2 RN H1 ho9 hg9 hrow hpr hne HO8 HB8 HG8 HOF hi0 hz0 hz1 hz2 HZ3
     go_wp2_with fail
     go_roundg n
     case measure => omega
     case rel => exact ⟨_, k8, bad8, HYY.out.2, HB9, HG9, HO9, HZ9, ⟨by have := HL.out; have := HYY.out; simp; omega⟩, ⟨fun _ => by have := HNN.out; have := HYY.out; omega⟩⟩
  ·have HT : Hd (Z = (ps, kk, true)) := ⟨by rw [← HZ.out]; cases gk <;> rfl⟩
   by_cases hlt : kk < s.size
   ·have i1 : (kk : Int) < s.size := by omega
    have HF : Hd (E = (ps, true)) := ⟨by rw [← HE.out, HT.out]; simp [hlt]⟩
    have fz := fun i => HB.out.froz i
    clear hlt
    go_wp2_with fail
    go_quiet (fail)
    go_wp2_with fail
    go_ret
    rw [HF.out]
    exact ⟨_, kk, rfl, HO.out.up (Below.dn (ag _ _) _) |>.grown (set_grown _ ⟨g, 2, none⟩ _) (HB.out.dn _) (by decide) (by decide), (HB.out.dn _).set_ 2 _, (gb_dn HG.out _).set 2 _⟩
   ·have i1 : ¬ (kk : Int) < s.size := by omega
    have HF : Hd (E = (ps, true)) := ⟨by rw [← HE.out, HT.out]; simp [hlt]⟩
    clear hlt
    go_wp2_with fail
    go_quiet (fail)
    go_wp2_with fail
    go_ret
    rw [HF.out]
    exact ⟨_, kk, rfl, HO.out.up (Below.dn (ag _ _) _), HB.out.dn _, gb_dn HG.out _⟩
end Go.Proofs.YtgjkgkgieeoalaaGreat
