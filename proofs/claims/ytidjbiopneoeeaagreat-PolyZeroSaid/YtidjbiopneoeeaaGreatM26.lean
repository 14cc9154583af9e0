/- Parts of the proof, joined: what each says stands at its head. -/
import Derived.Test.YtidjbiopneoeeaaGreatM23
import Derived.Test.YtidjbiopneoeeaaGreatM25
import Derived.Test.YtidjbiopneoeeaaGreatM16
import Derived.Test.YtidjbiopneoeeaaGreatM17
set_option linter.unusedVariables false
set_option linter.unusedSimpArgs false
/- The ninth reference's put on data; an append of terms onto a row of the call's own. No condition. -/
namespace Go.Proofs.YtidjbiopneoeeaaGreat
open Go.RowKit

/-- the rounds of put: is it done, what is made, what is left -/
def putW (o : Int) (t : TermD) : Bool → List TermD → List TermD → Int × List TermD
  | d, acc, [] => (0, if d = true then acc else acc ++ [t])
  | d, acc, p :: r => if monCmp o p.m t.m = 0 then (if (addD p.c t.c).1 ≠ 0 then ((addD p.c t.c).1, []) else putW o t true (acc ++ [⟨(addD p.c t.c).2, t.m⟩]) r)
    else if monCmp o p.m t.m < 0 ∧ d = false then putW o t true (acc ++ [t, p]) r else putW o t d (acc ++ [p]) r
theorem putW_done {o : Int} {t : TermD} : ∀ {r acc : List TermD}, (∀ p ∈ r, monCmp o p.m t.m ≠ 0) → putW o t true acc r = (0, acc ++ r)
  | [], acc, _ => by simp [putW]
  | p :: r, acc, h => by
    unfold putW
    rw [if_neg (h p (by simp)), if_neg (by simp), putW_done (fun q hq => h q (by simp [hq]))]
    simp
theorem putW_putD {o : Int} {t : TermD} (ht : monMay t.m = true) : ∀ {r acc : List TermD}, Sta o r → putW o t false acc r = appD acc (putD o r t)
  | [], acc, _ => by simp [putW, putD, hasM, insD, appD]
  | p :: r, acc, h => by
    obtain ⟨ho, hg, hf⟩ := h
    obtain ⟨f1, f2⟩ := List.pairwise_cons.1 hf
    have hp := hg p (by simp)
    have hr : Sta o r := ⟨ho, fun s hs => hg s (by simp [hs]), f2⟩
    unfold putW
    by_cases h0 : monCmp o p.m t.m = 0
    · have em : p.m = t.m := (monCmp_zero ho hp ht).1 h0
      have far : ∀ q ∈ r, q.m ≠ t.m := fun q hq e => by
        have := f1 q hq
        rw [em, e, (monCmp_zero ho ht ht).2 rfl] at this
        omega
      have hn : ∀ q ∈ r, monCmp o q.m t.m ≠ 0 := fun q hq e => far q hq ((monCmp_zero ho (hg q (by simp [hq])) ht).1 e)
      have hh : hasM (p :: r) t.m = true := hasM_iff.2 ⟨p, by simp, em⟩
      have hget : getM (p :: r) t.m = p.c := by unfold getM; simp [em]
      rw [if_pos h0]
      unfold putD
      rw [if_pos hh, hget]
      by_cases he : (addD p.c t.c).1 = 0
      · rw [if_neg (by simpa using he), if_neg (by simpa using he), putW_done hn]
        have hs : setM (p :: r) t.m (addD p.c t.c).2 = ⟨(addD p.c t.c).2, t.m⟩ :: r := by
          have : setM r t.m (addD p.c t.c).2 = r := setM_far' far _
          unfold setM at this ⊢
          rw [List.map_cons, if_pos em, this]
        rw [hs]
        simp [appD]
      · rw [if_pos (by simpa using he), if_pos (by simpa using he)]
        simp [appD, he]
    · rw [if_neg h0]
      have em : p.m ≠ t.m := fun e => h0 ((monCmp_zero ho hp ht).2 e)
      by_cases hlt : monCmp o p.m t.m < 0
      · have hn : ∀ q ∈ r, monCmp o q.m t.m < 0 := fun q hq => by
          have a1 := f1 q hq
          have a2 := monCmp_anti ho hp (hg q (by simp [hq]))
          exact monCmp_lt ho (hg q (by simp [hq])) hp ht (by omega) hlt
        rw [if_pos ⟨hlt, rfl⟩, putW_done (fun q hq e => by have := hn q hq; omega)]
        have hh : ¬ hasM (p :: r) t.m = true := fun h => by
          obtain ⟨q, hq, e⟩ := hasM_iff.1 h
          rcases List.mem_cons.1 hq with rfl | hq
          · exact em e
          · have := hn q hq
            rw [e, (monCmp_zero ho ht ht).2 rfl] at this
            omega
        unfold putD
        rw [if_neg hh]
        unfold insD
        rw [if_pos hlt]
        simp [appD]
      · rw [if_neg (fun h => hlt h.1), putW_putD ht hr]
        have hh : hasM (p :: r) t.m = hasM r t.m := by unfold hasM; simp [em]
        have hget : getM (p :: r) t.m = getM r t.m := by unfold getM; rw [List.find?_cons, decide_eq_false em]
        have hset : ∀ c, setM (p :: r) t.m c = p :: setM r t.m c := fun c => by unfold setM; rw [List.map_cons, if_neg em]
        have hins : insD o t (p :: r) = p :: insD o t r := by conv => lhs; unfold insD
                                                              rw [if_neg hlt]
        unfold putD
        rw [hh, hget, hset, hins]
        by_cases h1 : hasM r t.m = true
        · rw [if_pos h1, if_pos h1]
          by_cases he : (addD (getM r t.m) t.c).1 = 0
          · rw [if_neg (by simpa using he), if_neg (by simpa using he)]; simp [appD]
          · rw [if_pos (by simpa using he), if_pos (by simpa using he)]; simp [appD, he]
        · rw [if_neg h1, if_neg h1]; simp [appD]
where
  setM_far' {al : List TermD} {m : MonD} (h : ∀ p ∈ al, p.m ≠ m) (c : RatD) : setM al m c = al := by
    unfold setM
    induction al with
    | nil => rfl
    | cons p al ih => rw [List.map_cons, if_neg (h p (by simp)), ih (fun q hq => h q (by simp [hq]))]

theorem Tryz.slTermP : Tryz.prog.underlying 25 = some (.slice 67) := Tryz.slPoly
/-- what an append onto a row of terms leaves as it was -/
structure Apd (b0 base B : Nat) (w0 w w' : World) (v v' : Value) (ds us : List TermD) : Prop where
  own : OwnT w' b0 base v' (ds ++ us)
  below : Below B w0 w'
  size : w.heap.size ≤ w'.heap.size
  bk : ∀ {g : Nat} {t : TypeId} {cs : Array Value}, Bk w g t cs → g < base → Bk w' g t cs
  rat : ∀ {u : Value} {r : RatD}, RRat w b0 u r → RRat w' b0 u r
  term : ∀ {u : Value} {s : TermD}, RTerm w b0 u s → RTerm w' b0 u s
theorem RTerm.grown {w w' : World} {b0 : Nat} {v : Value} {t : TermD} {row : Option Nat} (h : RTerm w b0 v t) (hg : w.grownBy w' row) (hr : ∀ g, row = some g → b0 ≤ g ∧ ∃ t cs, Bk w g t cs ∧ t ≠ 106) : RTerm w' b0 v t :=
  let ⟨A, c, B, d, e, h1, h2, h3, h4⟩ := h; ⟨A, c, B, d, e, h1, h2, h3.grown hg hr, h4.grown hg hr⟩
theorem wpList_append_T {w w0 : World} {ops : Array Oper} {rest : List Oper} {o : Oper} {a : Act} {Q : Exit → Act → World → Prop} (hgd : o.guard = none) (s x : Operand) (t t2 : TypeId)
    (ho : o.op = .call { callee := .builtin .append, args := #[s, x], argTypes := #[t, t2] }) (ht : Tryz.prog.underlying t = some (.slice 67)) (ht2 : Tryz.prog.underlying t2 = some (.slice 67))
    {b0 base B : Nat} {v : Value} {ds us : List TermD} {A : Option Addr} {m c : Nat} (hs : a.eval s = v) (hx : a.eval x = .slice A m c) (hm : m = us.length) (hO : OwnT w b0 base v ds) (hR : RPol w b0 A us)
    (hb : b0 ≤ base) (hlen : ds.length + us.length ≤ 1000000) (hB : Below B w0 w) (hBb : B ≤ base) (hbase : base ≤ w.heap.size)
    (h : ∀ v' w', Apd b0 base B w0 w w' v v' ds us → wpList Tryz.prog ops Q rest (a.put o.dst v') w') : wpList Tryz.prog ops Q (o :: rest) a w := by
  subst hm
  obtain ⟨i0, hi0, hz0, hz1, hz2⟩ := info_split Tryz.infTerm
  obtain ⟨cs, o1, o2⟩ := hO
  obtain ⟨ds', r1, r2⟩ := hR
  refine wpList_append_rd2 w hgd s x t t2 ho base 67 i0 _ 7 88 ht ht2 hi0 hz0 hz1 hz2 rfl (by decide) v ds.length cs hs o1 _ A us.length c ds' hx r1 r2.one (by unfold maxLen; omega) (by omega) hbase ?_
  intro v' w' h1 hg _
  have hr := own_row_ok o1 hb (by decide)
  refine h v' w' ⟨OwnT.app o1 o2 r2 hb hg h1, hB.grown hg (Nat.le_trans hBb hbase) (fun k hk => Nat.le_trans hBb (own_bk o1 hk).2), hg.size, fun hk hlt => hk.grown hg (fun e => ?_), fun hr' => hr'.grown hg hr, fun hr' => hr'.grown hg hr⟩
  have := (own_bk o1 e.symm).2
  omega
theorem step_append_T {w w0 : World} {ops : Array Oper} {o : Oper} {a : Act} {K : Act → World → Prop} {Q : Exit → Act → World → Prop} {E : Prop} (hgd : o.guard = none) (s x : Operand) (t : TypeId)
    (ho : o.op = .call { callee := .builtin .append, args := #[s, x], argTypes := #[t, t] }) (ht : Tryz.prog.underlying t = some (.slice 67))
    {b0 base B : Nat} {v : Value} {ds us : List TermD} {A : Option Addr} {m c : Nat} (hs : a.eval s = v) (hx : a.eval x = .slice A m c) (hm : m = us.length) (hO : OwnT w b0 base v ds) (hR : RPol w b0 A us)
    (hb : b0 ≤ base) (hlen : ds.length + us.length ≤ 1000000) (hB : Below B w0 w) (hBb : B ≤ base) (hbase : base ≤ w.heap.size)
    (h : ∀ v' w', Apd b0 base B w0 w w' v v' ds us → K (a.put o.dst v') w') : if Region.wanted o (yielded ops a.tmps) = true then Oper.wp Tryz.prog o a w K Q else E := by
  subst hm
  obtain ⟨i0, hi0, hz0, hz1, hz2⟩ := info_split Tryz.infTerm
  obtain ⟨cs, o1, o2⟩ := hO
  obtain ⟨ds', r1, r2⟩ := hR
  refine step_append_rdN w hgd s x t ho base 67 i0 _ 7 88 ht hi0 hz0 hz1 hz2 rfl (by decide) v ds.length cs hs o1 _ A us.length c ds' hx r1 r2.one (by unfold maxLen; omega) (by omega) hbase ?_
  intro v' w' h1 hg _
  have hr := own_row_ok o1 hb (by decide)
  refine h v' w' ⟨OwnT.app o1 o2 r2 hb hg h1, hB.grown hg (Nat.le_trans hBb hbase) (fun k hk => Nat.le_trans hBb (own_bk o1 hk).2), hg.size, fun hk hlt => hk.grown hg (fun e => ?_), fun hr' => hr'.grown hg hr, fun hr' => hr'.grown hg hr⟩
  have := (own_bk o1 e.symm).2
  omega
theorem rterm_of {w : World} {b0 : Nat} {r : RatD} {A B : Option Addr} {c d : Nat} (h : RRat w b0 (.agg #[.bool r.neg, .slice A r.num.length c, .slice B r.den.length d]) r) (m : MonD) :
    RTerm w b0 (.agg #[.bool r.neg, .slice A r.num.length c, .slice B r.den.length d, .int .i64 m.x0, .int .i64 m.x1, .int .i64 m.x2, .int .i64 m.x3]) ⟨r, m⟩ := by
  obtain ⟨x1, x2, x3, x4, e, y1, y2, y3, y4⟩ := h
  simp only [Value.agg.injEq, Array.mk.injEq, List.cons.injEq, Value.slice.injEq, true_and, and_true] at e
  obtain ⟨⟨rfl, rfl⟩, rfl, rfl⟩ := e
  exact ⟨_, _, _, _, rfl, y1, y2, y3, y4⟩
theorem at_world {B : Nat} {w0 w : World} {b0 : Nat} {v : Value} {r : RatD} (_ : Below B w0 w) (h : RRat w b0 v r) : RRat w b0 v r := h
/-- a term in a block of its own, as a row of one -/
theorem rpol_one {w : World} {b0 : Nat} {t : TermD} {A B : Option Addr} {c d : Nat} (h : RTerm w b0 (.agg #[.bool t.c.neg, .slice A t.c.num.length c, .slice B t.c.den.length d, .int .i64 t.m.x0, .int .i64 t.m.x1, .int .i64 t.m.x2, .int .i64 t.m.x3]) t) (ty : TypeId) :
    RPol (w.alloc (.cells #[.bool t.c.neg, .slice A t.c.num.length c, .slice B t.c.den.length d, .int .i64 t.m.x0, .int .i64 t.m.x1, .int .i64 t.m.x2, .int .i64 t.m.x3] ty)) b0 (some ⟨w.heap.size, 0, none⟩) [t] := by
  have hb : Below w.heap.size w (w.alloc (.cells #[.bool t.c.neg, .slice A t.c.num.length c, .slice B t.c.den.length d, .int .i64 t.m.x0, .int .i64 t.m.x1, .int .i64 t.m.x2, .int .i64 t.m.x3] ty)) := (Below.refl _ _).alloc (Nat.le_refl _) _
  obtain ⟨x1, x2, x3, x4, e, y1, y2, y3, y4⟩ := h
  simp only [Value.agg.injEq, Array.mk.injEq, List.cons.injEq, Value.slice.injEq, true_and, and_true] at e
  obtain ⟨⟨rfl, rfl⟩, rfl, rfl⟩ := e
  have hr := Rd.new_ w #[.bool t.c.neg, .slice A t.c.num.length c, .slice B t.c.den.length d, .int .i64 t.m.x0, .int .i64 t.m.x1, .int .i64 t.m.x2, .int .i64 t.m.x3] ty 1 7 rfl
  refine ⟨_, hr.more (by simp), ?_⟩
  have := TCs.cons (w := w.alloc (.cells #[.bool t.c.neg, .slice A t.c.num.length c, .slice B t.c.den.length d, .int .i64 t.m.x0, .int .i64 t.m.x1, .int .i64 t.m.x2, .int .i64 t.m.x3] ty)) (b0 := b0) (t := t) ⟨A, c, B, d, rfl, y1, y2, y3.up hb, y4.up hb⟩ .nil
  simpa using this
end Go.Proofs.YtidjbiopneoeeaaGreat
/- The walk of the fifth reference's Make. The condition: short rows. -/
namespace Go.Proofs.YtidjbiopneoeeaaGreat
open Go.RowKit

set_option maxHeartbeats 1000000 in
set_option maxRecDepth 100000 in
theorem rrat_Make_bad (neg : Bool) (A B : Option Addr) (c d : Nat) (l m : List Int) (w : World) (h : RdI w .u64 A l) (hn : l.length ≤ c) (h' : RdI w .u64 B m) (hn' : m.length ≤ d) (h9 : l.length ≤ 10000000) (h9' : m.length ≤ 10000000)
    (hm : (natMay l && natMay m) = false) :
    Calls Tryz.prog 180 #[.bool neg, .slice A l.length c, .slice B m.length d] w fun e w' => e = .returned (.tuple #[.agg #[.bool false, .slice none 0 0, .slice none 0 0], .int .i64 1]) ∧ Below w.heap.size w w' := by
  have hb1 : Hd (Below w.heap.size w (w.alloc (Obj.cells #[.bool false, .slice none 0 0, .slice none 0 0] 63))) := ⟨(Below.refl _ _).alloc (Nat.le_refl _) _⟩
  have CG := Hd.mk (rquot_Gcd_bad A B c d l m _ (h.up hb1.out) hn (h'.up hb1.out) hn' (by omega) (by omega) hm)
  clear h h' hm
  go_enter Tryz.func180, Tryz.ntmps180
  go_wp2_with fail
  refine CG.out.mono ?_
  rintro e w2 ⟨rfl, rfl⟩
  go_wp2_with fail
  refine bodyPost_ret (res_rat2 rfl _ _ w.heap.size #[.bool false, .slice none 0 0, .slice none 0 0] rfl (Bk.new_ _ _ _) rfl) rfl ?_
  exact ⟨rfl, hb1.out⟩

set_option maxHeartbeats 1000000 in
set_option maxRecDepth 100000 in
theorem rrat_Make_zero (neg : Bool) (A B : Option Addr) (c d : Nat) (l m : List Int) (w : World) (h : RdI w .u64 A l) (hn : l.length ≤ c) (h' : RdI w .u64 B m) (hn' : m.length ≤ d) (hu : U64 l) (hu' : U64 m)
    (hm : natMay l = true) (hm' : natMay m = true) (h0 : m.length = 0) :
    Calls Tryz.prog 180 #[.bool neg, .slice A l.length c, .slice B m.length d] w fun e w' => e = .returned (.tuple #[.agg #[.bool false, .slice none 0 0, .slice none 0 0], .int .i64 30]) ∧ Below w.heap.size w w' := by
  have hb1 : Hd (Below w.heap.size w (w.alloc (Obj.cells #[.bool false, .slice none 0 0, .slice none 0 0] 63))) := ⟨(Below.refl _ _).alloc (Nat.le_refl _) _⟩
  have CG := Hd.mk (rquot_Gcd A B c d l m _ (h.up hb1.out) hn (h'.up hb1.out) hn' hu hu' hm hm')
  have k1 := Hd.mk (Bk.new_ w 63 #[.bool false, .slice none 0 0, .slice none 0 0])
  have e1 : ((m.length : Int) == 0) = true := by rw [beq_iff_eq]; omega
  clear h h' hm hu hu' hm' h0
  go_enter Tryz.func180, Tryz.ntmps180
  go_wp2_with fail
  refine CG.out.mono ?_
  rintro e w2 ⟨Ag, cg, G, rfl, _, _, ho, hb⟩
  have k2 := Hd.mk (k1.out.up hb)
  have hb2 : Hd (Below w.heap.size w w2) := ⟨hb1.out.trans (hb.mono hb1.out.size)⟩
  have l0 : w2.cell? ⟨w.heap.size, 0, none⟩ = some (.bool false) := by rw [k2.out.cell]; rfl
  have l1 : w2.cell? ⟨w.heap.size, 1, none⟩ = some (.slice none 0 0) := by rw [k2.out.cell]; rfl
  have l2 : w2.cell? ⟨w.heap.size, 2, none⟩ = some (.slice none 0 0) := by rw [k2.out.cell]; rfl
  have f0 := fun i => k2.out.froz i
  clear ho hb k1 hb1 CG
  go_wp2_with fail
  refine bodyPost_ret (res_rat2 rfl _ _ w.heap.size #[.bool false, .slice none 0 0, .slice none 0 0] rfl (k2.out.set3 _ _ _) rfl) rfl ?_
  exact ⟨rfl, ((hb2.out.setCell (Nat.le_refl _) _).setCell (Nat.le_refl _) _).setCell (Nat.le_refl _) _⟩

set_option maxHeartbeats 1000000 in
set_option maxRecDepth 100000 in
theorem rrat_Make_ok (b0 : Nat) (neg : Bool) (A B : Option Addr) (c d : Nat) (l m : List Int) (w : World) (hb0 : b0 ≤ w.heap.size) (h : RdI w .u64 A l) (hn : l.length ≤ c) (h' : RdI w .u64 B m) (hn' : m.length ≤ d) (hu : U64 l) (hu' : U64 m)
    (hm : natMay l = true) (hm' : natMay m = true) (h0 : 0 < m.length) :
    Calls Tryz.prog 180 #[.bool neg, .slice A l.length c, .slice B m.length d] w fun e w' => ∃ v, e = .returned (.tuple #[v, .int .i64 0]) ∧
      RRat w' b0 v ⟨neg && decide (val l / Nat.gcd (val l) (val m) ≠ 0), limbs (val l / Nat.gcd (val l) (val m)), limbs (val m / Nat.gcd (val l) (val m))⟩ ∧ Below w.heap.size w w' := by
  have hb1 : Hd (Below w.heap.size w (w.alloc (Obj.cells #[.bool false, .slice none 0 0, .slice none 0 0] 63))) := ⟨(Below.refl _ _).alloc (Nat.le_refl _) _⟩
  have CG := Hd.mk (rquot_Gcd A B c d l m _ (h.up hb1.out) hn (h'.up hb1.out) hn' hu hu' hm hm')
  have k1 := Hd.mk (Bk.new_ w 63 #[.bool false, .slice none 0 0, .slice none 0 0])
  have e1 : ((m.length : Int) == 0) = false := by rw [beq_eq_false_iff_ne]; omega
  have hpos := natMay_posN hm' hu' h0
  have hgp : 0 < Nat.gcd (val l) (val m) := Nat.gcd_pos_of_pos_right _ hpos
  have hgl := gcd_len hu hu' (natMay_len hm) (natMay_len hm')
  have HG : Hd (natMay (limbs (Nat.gcd (val l) (val m))) = true ∧ 0 < (limbs (Nat.gcd (val l) (val m))).length) := ⟨limbs_may hgl, by
    rcases Nat.eq_zero_or_pos (limbs (Nat.gcd (val l) (val m))).length with h | h
    · have := limbs_nil.1 (List.eq_nil_of_length_eq_zero h); omega
    · exact h⟩
  have HGV := Hd.mk (val_limbs (Nat.gcd (val l) (val m)))
  obtain ⟨G, hG⟩ : ∃ G, Nat.gcd (val l) (val m) = G := ⟨_, rfl⟩
  rw [hG] at CG HG HGV hgp ⊢
  have D1 := Hd.mk (fun W Ag cg (hW : Below w.heap.size w W) (hg : RdI W .u64 Ag (limbs G)) (hc : (limbs G).length ≤ cg) => rquot_Div A Ag c cg l (limbs G) W (h.up hW) hn hg hc hu (limbs_u64 _) hm HG.out.1 HG.out.2)
  have D2 := Hd.mk (fun W Ag cg (hW : Below w.heap.size w W) (hg : RdI W .u64 Ag (limbs G)) (hc : (limbs G).length ≤ cg) => rquot_Div B Ag d cg m (limbs G) W (h'.up hW) hn' hg hc hu' (limbs_u64 _) hm' HG.out.1 HG.out.2)
  rw [HGV.out] at D1 D2
  clear h h' hm hu hu' hm' h0 hpos hgl HG HGV hG
  go_enter Tryz.func180, Tryz.ntmps180
  go_wp2_with fail
  refine CG.out.mono ?_
  rintro e w2 ⟨Ag, cg, G', rfl, hG', hcg, hrg, hb⟩
  subst hG'
  have k2 := Hd.mk (k1.out.up hb)
  have hb2 : Hd (Below w.heap.size w w2) := ⟨hb1.out.trans (hb.mono hb1.out.size)⟩
  have HRG := Hd.mk hrg
  have C3 := Hd.mk (D1.out w2 Ag cg hb2.out hrg hcg)
  clear hb k1 hb1 CG D1 hrg
  go_wp2_with fail
  refine C3.out.mono ?_
  rintro e w3 ⟨q1, u1, rfl, ho, _, hb⟩
  obtain ⟨A1, c1, rfl, hc1, _, _⟩ := ho.reads
  have k3 := Hd.mk (k2.out.up hb)
  have hb3 : Hd (Below w.heap.size w w3) := ⟨hb2.out.trans (hb.mono hb2.out.size)⟩
  have C4 := Hd.mk (D2.out _ Ag cg hb3.out (HRG.out.up hb) hcg)
  have hq1 := Hd.mk (ho.low hb2.out.size)
  clear ho hb C3 D2 HRG k2
  go_wp2_with fail
  refine C4.out.mono ?_
  rintro e w4 ⟨q2, u2, rfl, ho, _, hb⟩
  obtain ⟨A2, c2, rfl, hc2, _, _⟩ := ho.reads
  have k4 := Hd.mk (k3.out.up hb)
  have hb4 : Hd (Below w.heap.size w w4) := ⟨hb3.out.trans (hb.mono hb3.out.size)⟩
  have hq14 := hq1.out.below hb
  have hq24 := ho.low hb3.out.size
  obtain ⟨rr1, _, rc1⟩ := RRow.of_own hq14 (limbs_u64 _) b0
  obtain ⟨rr2, _, rc2⟩ := RRow.of_own hq24 (limbs_u64 _) b0
  have R1 := Hd.mk rr1
  have R2 := Hd.mk rr2
  have RC := Hd.mk (And.intro rc1 rc2)
  clear ho hb C4 hq14 hq24 hq1 rr1 rr2 k3 rc1 rc2
  have f42 : w4.frozen? ⟨w.heap.size, 2, none⟩ = false := k4.out.froz 2
  have f41 : w4.frozen? ⟨w.heap.size, 1, none⟩ = false := k4.out.froz 1
  have f40 : w4.frozen? ⟨w.heap.size, 0, none⟩ = false := k4.out.froz 0
  have l42 : w4.cell? ⟨w.heap.size, 2, none⟩ = some (.slice none 0 0) := by rw [k4.out.cell]; rfl
  have l41 : w4.cell? ⟨w.heap.size, 1, none⟩ = some (.slice none 0 0) := by rw [k4.out.cell]; rfl
  have l40 : w4.cell? ⟨w.heap.size, 0, none⟩ = some (.bool false) := by rw [k4.out.cell]; rfl
  have ne1 : Hd (∀ g, some w.heap.size = some g → b0 ≤ g ∧ ∃ t cs, Bk w4 g t cs ∧ t ≠ 106) := ⟨fun g e => by injection e with e; subst e; exact ⟨hb0, _, _, k4.out, by decide⟩⟩
  have HZ : Hd (decide ((0 : Int) < (limbs (val l / G)).length) = decide (val l / G ≠ 0)) := ⟨by
    apply decide_eq_decide.2
    have e := @limbs_nil (val l / G)
    rw [← List.length_eq_zero_iff] at e
    omega⟩
  obtain ⟨zb, hzb⟩ : ∃ zb, decide (val l / G ≠ 0) = zb := ⟨_, rfl⟩
  rw [hzb] at HZ
  have HZB := Hd.mk hzb
  clear hzb
  have HZN : Hd (decide (0 < (limbs (val l / G)).length) = zb) := ⟨by
    rw [← HZ.out]
    apply decide_eq_decide.2
    omega⟩
  have hz1 : decide ((0 : Int) < (limbs (val l / G)).length) = zb := HZ.out
  have hg5 := Hd.mk (fun u => set_grown w4 ⟨w.heap.size, 0, none⟩ u)
  clear hb0
  cases neg <;> cases zb
  all_goals (
    have hz2 := hz1
    simp only [decide_eq_true_eq, decide_eq_false_iff_not] at hz2
    clear hz1
    go_wp2_with fail
    try rw [HZN.out]
    first
    | (refine bodyPost_ret (res_rat2 rfl _ _ w.heap.size #[.bool false, .slice A1 (limbs (val l / G)).length c1, .slice A2 (limbs (val m / G)).length c2] rfl ?k1 rfl) rfl ?_
       case k1 => exact k4.out.set3 _ _ _
       rw [HZB.out]
       refine ⟨_, rfl, ⟨A1, c1, A2, c2, rfl, RC.out.1, RC.out.2, R1.out.grown (((hg5.out _).set _ _).set _ _) ne1.out, R2.out.grown (((hg5.out _).set _ _).set _ _) ne1.out⟩, ?_⟩
       exact ((hb4.out.setCell (Nat.le_refl _) _).setCell (Nat.le_refl _) _).setCell (Nat.le_refl _) _)
    | (refine bodyPost_ret (res_rat2 rfl _ _ w.heap.size #[.bool true, .slice A1 (limbs (val l / G)).length c1, .slice A2 (limbs (val m / G)).length c2] rfl ?k1 rfl) rfl ?_
       case k1 => exact k4.out.set3 _ _ _
       rw [HZB.out]
       refine ⟨_, rfl, ⟨A1, c1, A2, c2, rfl, RC.out.1, RC.out.2, R1.out.grown (((hg5.out _).set _ _).set _ _) ne1.out, R2.out.grown (((hg5.out _).set _ _).set _ _) ne1.out⟩, ?_⟩
       exact ((hb4.out.setCell (Nat.le_refl _) _).setCell (Nat.le_refl _) _).setCell (Nat.le_refl _) _))

theorem rrat_Make (b0 : Nat) (neg : Bool) (A B : Option Addr) (c d : Nat) (l m : List Int) (w : World) (hb0 : b0 ≤ w.heap.size) (h : RdI w .u64 A l) (hn : l.length ≤ c) (h' : RdI w .u64 B m) (hn' : m.length ≤ d) (hu : U64 l) (hu' : U64 m) (h9 : l.length ≤ 10000000) (h9' : m.length ≤ 10000000) :
    Calls Tryz.prog 180 #[.bool neg, .slice A l.length c, .slice B m.length d] w fun e w' => ∃ v, e = .returned (.tuple #[v, .int .i64 (makeD neg l m).1]) ∧ RRat w' b0 v (makeD neg l m).2 ∧ Below w.heap.size w w' := by
  unfold makeD
  by_cases h1 : (natMay l && natMay m) = false
  · rw [if_pos h1]
    refine (rrat_Make_bad neg A B c d l m w h hn h' hn' h9 h9' h1).mono ?_
    rintro e w' ⟨rfl, hb⟩
    exact ⟨_, rfl, RRat.zero _ _, hb⟩
  · rw [if_neg h1]
    have h2 : natMay l = true ∧ natMay m = true := by simpa using h1
    by_cases h3 : m.length = 0
    · rw [if_pos h3]
      refine (rrat_Make_zero neg A B c d l m w h hn h' hn' hu hu' h2.1 h2.2 h3).mono ?_
      rintro e w' ⟨rfl, hb⟩
      exact ⟨_, rfl, RRat.zero _ _, hb⟩
    · rw [if_neg h3]
      exact rrat_Make_ok b0 neg A B c d l m w hb0 h hn h' hn' hu hu' h2.1 h2.2 (by omega)
end Go.Proofs.YtidjbiopneoeeaaGreat
/- The walk of the fifth reference's plus. The condition: short rows. -/
namespace Go.Proofs.YtidjbiopneoeeaaGreat
open Go.RowKit

theorem Tryz.stSig : isStruct (Tryz.prog.underlying 258) = true := by kernel_rfl
theorem Tryz.szSig : (Tryz.prog.info? 258).map (·.size) = some 2 := by kernel_rfl
theorem res_sig {fn : Func} {p : Tmp} (h : fn.results = #[.cell p 258]) (tmps : Array Value) (w : World) (g : Nat) (cs : Array Value) (hp : tmps.getD p undef = .pointer (some ⟨g, 0, none⟩)) (hk : Bk w g 258 cs) (hc : cs.size = 2) :
    (results fn tmps).run Tryz.prog w = .ok (.agg cs) w := by
  obtain ⟨f, h1⟩ := st_of Tryz.stSig
  exact results_cell_row h tmps w g _ cs (0, 0) (.struct f) hp hk h1 rfl (by rw [hc]; exact Tryz.szSig)

set_option maxHeartbeats 1000000 in
set_option maxRecDepth 100000 in
theorem rrat_plus_ne (A B : Option Addr) (c d : Nat) (l m : List Int) (neg too : Bool) (w : World) (h : RdI w .u64 A l) (hn : l.length ≤ c) (h' : RdI w .u64 B m) (hn' : m.length ≤ d) (hu : U64 l) (hu' : U64 m) (h9 : l.length ≤ 100000) (h9' : m.length ≤ 100000) (hs : neg ≠ too) :
    Calls Tryz.prog 230 #[.agg #[.bool neg, .slice A l.length c], .agg #[.bool too, .slice B m.length d]] w fun e w' => ∃ v, e = .returned (.agg #[.bool (plusD neg (val l) too (val m)).1, v]) ∧
      OwnI w' w.heap.size 106 .u64 v (limbs (plusD neg (val l) too (val m)).2) ∧ Below w.heap.size w w' := by
  have e1 : (neg == too) = false := by rw [beq_eq_false_iff_ne]; exact hs
  have CS := Hd.mk (fun W (hW : Below w.heap.size w W) => ref_Sub A B c d l m W (h.up hW) hn h9 (h'.up hW) hn' h9' hu hu')
  have CT := Hd.mk (fun W (hW : Below w.heap.size w W) => ref_Sub B A d c m l W (h'.up hW) hn' h9' (h.up hW) hn h9 hu' hu)
  obtain ⟨W, hW⟩ : ∃ W, W = (((w.alloc (Obj.cells #[.bool neg, .slice A l.length c] 258)).alloc (Obj.cells #[.bool too, .slice B m.length d] 258)).alloc (Obj.cells #[.bool false, .slice none 0 0] 258)) := ⟨_, rfl⟩
  have HW := Hd.mk hW
  have hb0 : Hd (Below w.heap.size w W) := ⟨by rw [hW]; exact (((Below.refl _ _).alloc (Nat.le_refl _) _).alloc (by simp) _).alloc (by simp; omega) _⟩
  have HNE := Hd.mk hs
  have k1 : Hd (Bk W w.heap.size 258 #[.bool neg, .slice A l.length c]) := ⟨by rw [hW]; exact ((Bk.new_ _ _ _).al _).al _⟩
  have k2 : Hd (Bk W (w.heap.size + 1) 258 #[.bool too, .slice B m.length d]) := ⟨by
    rw [hW]
    have := (Bk.new_ (w.alloc (Obj.cells #[.bool neg, .slice A l.length c] 258)) 258 #[.bool too, .slice B m.length d]).al (Obj.cells #[.bool false, .slice none 0 0] 258)
    simpa using this⟩
  have k3 : Hd (Bk W (w.heap.size + 1 + 1) 258 #[.bool false, .slice none 0 0]) := ⟨by
    rw [hW]
    have := Bk.new_ ((w.alloc (Obj.cells #[.bool neg, .slice A l.length c] 258)).alloc (Obj.cells #[.bool too, .slice B m.length d] 258)) 258 #[.bool false, .slice none 0 0]
    simpa using this⟩
  have C1 := Hd.mk (CS.out W hb0.out)
  obtain ⟨tb, htb⟩ : ∃ tb, decide (val m ≤ val l) = tb := ⟨_, rfl⟩
  rw [htb] at C1
  clear h h' hu hu' hs hW
  go_enter Tryz.func230, Tryz.ntmps230
  go_wp2_with fail
  rw [← HW.out]
  refine C1.out.mono ?_
  rintro e w2 ⟨v, rfl, ho, hb⟩
  obtain ⟨Av, cv, rfl, _, _, _⟩ := ho.reads
  have q1 := Hd.mk (k1.out.up hb)
  have q2 := Hd.mk (k2.out.up hb)
  have q3 := Hd.mk (k3.out.up hb)
  have hb2 : Hd (Below w.heap.size w w2) := ⟨hb0.out.trans (hb.mono hb0.out.size)⟩
  have l10 : w2.cell? ⟨w.heap.size, 0, none⟩ = some (.bool neg) := by rw [q1.out.cell]; rfl
  have l11 : w2.cell? ⟨w.heap.size, 1, none⟩ = some (.slice A l.length c) := by rw [q1.out.cell]; rfl
  have l21 : w2.cell? ⟨w.heap.size + 1, 1, none⟩ = some (.slice B m.length d) := by rw [q2.out.cell]; rfl
  have f30 : w2.frozen? ⟨w.heap.size + 1 + 1, 0, none⟩ = false := q3.out.froz 0
  have f31 : w2.frozen? ⟨w.heap.size + 1 + 1, 1, none⟩ = false := q3.out.froz 1
  have l30 : w2.cell? ⟨w.heap.size + 1 + 1, 0, none⟩ = some (.bool false) := by rw [q3.out.cell]; rfl
  have l31 : w2.cell? ⟨w.heap.size + 1 + 1, 1, none⟩ = some (.slice none 0 0) := by rw [q3.out.cell]; rfl
  have HO := Hd.mk (ho.low hb0.out.size)
  have HTB := Hd.mk htb
  clear ho hb htb
  cases tb
  · have hlt : val l < val m := by have := of_decide_eq_false HTB.out; omega
    have HP : Hd (plusD neg (val l) too (val m) = (too, val m - val l)) := ⟨by unfold plusD; rw [if_neg HNE.out, if_pos hlt]⟩
    have C2 := Hd.mk (CT.out w2 hb2.out)
    clear hlt
    go_wp2_with fail
    refine C2.out.mono ?_
    rintro e w4 ⟨v4, rfl, ho, hb⟩
    obtain ⟨A4, c4, rfl, _, _, _⟩ := ho.reads
    have r2 := Hd.mk (q2.out.up hb)
    have r3 := Hd.mk (q3.out.up hb)
    have hb4 : Hd (Below w.heap.size w w4) := ⟨hb2.out.trans (hb.mono hb2.out.size)⟩
    have m20 : w4.cell? ⟨w.heap.size + 1, 0, none⟩ = some (.bool too) := by rw [r2.out.cell]; rfl
    have m30 : w4.cell? ⟨w.heap.size + 1 + 1, 0, none⟩ = some (.bool false) := by rw [r3.out.cell]; rfl
    have m31 : w4.cell? ⟨w.heap.size + 1 + 1, 1, none⟩ = some (.slice none 0 0) := by rw [r3.out.cell]; rfl
    have g30 : w4.frozen? ⟨w.heap.size + 1 + 1, 0, none⟩ = false := r3.out.froz 0
    have g31 : w4.frozen? ⟨w.heap.size + 1 + 1, 1, none⟩ = false := r3.out.froz 1
    have HO4 := Hd.mk (ho.low hb2.out.size)
    clear ho hb
    have o1 := Hd.mk (HO4.out.far (p := ⟨w.heap.size + 1 + 1, 0, none⟩) (own_ne HO4.out r3.out (by decide)) (.bool too))
    have r31 := Hd.mk (show Bk _ _ _ #[_, _] from r3.out.set_ 0 (.bool too))
    have o2 := Hd.mk (o1.out.far (p := ⟨w.heap.size + 1 + 1, 1, none⟩) (own_ne o1.out r31.out (by decide)) (.slice A4 (limbs (val m - val l)).length c4))
    have r32 := Hd.mk (show Bk _ _ _ #[.bool too, .slice A4 (limbs (val m - val l)).length c4] from r31.out.set_ 1 (.slice A4 (limbs (val m - val l)).length c4))
    go_wp2_with fail
    refine bodyPost_ret (res_sig rfl _ _ (w.heap.size + 1 + 1) #[.bool too, .slice A4 (limbs (val m - val l)).length c4] rfl ?k1 rfl) rfl ?_
    case k1 => exact r32.out
    rw [HP.out]
    exact ⟨_, rfl, o2.out, (hb4.out.setCell (by simp; omega) _).setCell (by simp; omega) _⟩
  · have hle : ¬ val l < val m := by have := of_decide_eq_true HTB.out; omega
    have HP : Hd (plusD neg (val l) too (val m) = (neg, val l - val m)) := ⟨by unfold plusD; rw [if_neg HNE.out, if_neg hle]⟩
    clear hle
    have o1 := Hd.mk (HO.out.far (p := ⟨w.heap.size + 1 + 1, 0, none⟩) (own_ne HO.out q3.out (by decide)) (.bool neg))
    have r31 := Hd.mk (show Bk _ _ _ #[_, _] from q3.out.set_ 0 (.bool neg))
    have o2 := Hd.mk (o1.out.far (p := ⟨w.heap.size + 1 + 1, 1, none⟩) (own_ne o1.out r31.out (by decide)) (.slice Av (limbs (val l - val m)).length cv))
    have r32 := Hd.mk (show Bk _ _ _ #[.bool neg, .slice Av (limbs (val l - val m)).length cv] from r31.out.set_ 1 (.slice Av (limbs (val l - val m)).length cv))
    go_wp2_with fail
    refine bodyPost_ret (res_sig rfl _ _ (w.heap.size + 1 + 1) #[.bool neg, .slice Av (limbs (val l - val m)).length cv] rfl ?k2 rfl) rfl ?_
    case k2 => exact r32.out
    rw [HP.out]
    exact ⟨_, rfl, o2.out, (hb2.out.setCell (by simp; omega) _).setCell (by simp; omega) _⟩
end Go.Proofs.YtidjbiopneoeeaaGreat
/- The walk of the fifth reference's plus at like signs. The condition: short rows. -/
namespace Go.Proofs.YtidjbiopneoeeaaGreat
open Go.RowKit

set_option maxHeartbeats 1000000 in
set_option maxRecDepth 100000 in
theorem rrat_plus_eq (A B : Option Addr) (c d : Nat) (l m : List Int) (neg too : Bool) (w : World) (h : RdI w .u64 A l) (hn : l.length ≤ c) (h' : RdI w .u64 B m) (hn' : m.length ≤ d) (hu : U64 l) (hu' : U64 m) (h9 : l.length ≤ 100000) (h9' : m.length ≤ 100000) (hs : neg = too) :
    Calls Tryz.prog 230 #[.agg #[.bool neg, .slice A l.length c], .agg #[.bool too, .slice B m.length d]] w fun e w' => ∃ v, e = .returned (.agg #[.bool (plusD neg (val l) too (val m)).1, v]) ∧
      OwnI w' w.heap.size 106 .u64 v (limbs (plusD neg (val l) too (val m)).2) ∧ Below w.heap.size w w' := by
  have e1 : (neg == too) = true := by rw [beq_iff_eq]; exact hs
  have HP : Hd (plusD neg (val l) too (val m) = (neg, val l + val m)) := ⟨by unfold plusD; rw [if_pos hs]⟩
  have CA := Hd.mk (fun W (hW : Hd (Below w.heap.size w W)) => ref_Add A B c d l m W (h.up hW.out) hn h9 (h'.up hW.out) hn' h9' hu hu')
  obtain ⟨W, hW⟩ : ∃ W, W = (((w.alloc (Obj.cells #[.bool neg, .slice A l.length c] 258)).alloc (Obj.cells #[.bool too, .slice B m.length d] 258)).alloc (Obj.cells #[.bool false, .slice none 0 0] 258)) := ⟨_, rfl⟩
  have HW := Hd.mk hW
  have hb0 : Hd (Below w.heap.size w W) := ⟨by rw [hW]; exact (((Below.refl _ _).alloc (Nat.le_refl _) _).alloc (by simp) _).alloc (by simp; omega) _⟩
  have k1 : Hd (Bk W w.heap.size 258 #[.bool neg, .slice A l.length c]) := ⟨by rw [hW]; exact ((Bk.new_ _ _ _).al _).al _⟩
  have k2 : Hd (Bk W (w.heap.size + 1) 258 #[.bool too, .slice B m.length d]) := ⟨by
    rw [hW]
    have := (Bk.new_ (w.alloc (Obj.cells #[.bool neg, .slice A l.length c] 258)) 258 #[.bool too, .slice B m.length d]).al (Obj.cells #[.bool false, .slice none 0 0] 258)
    simpa using this⟩
  have k3 : Hd (Bk W (w.heap.size + 1 + 1) 258 #[.bool false, .slice none 0 0]) := ⟨by
    rw [hW]
    have := Bk.new_ ((w.alloc (Obj.cells #[.bool neg, .slice A l.length c] 258)).alloc (Obj.cells #[.bool too, .slice B m.length d] 258)) 258 #[.bool false, .slice none 0 0]
    simpa using this⟩
  have l10 : W.cell? ⟨w.heap.size, 0, none⟩ = some (.bool neg) := by rw [k1.out.cell]; rfl
  have l11 : W.cell? ⟨w.heap.size, 1, none⟩ = some (.slice A l.length c) := by rw [k1.out.cell]; rfl
  have l20 : W.cell? ⟨w.heap.size + 1, 0, none⟩ = some (.bool too) := by rw [k2.out.cell]; rfl
  have l21 : W.cell? ⟨w.heap.size + 1, 1, none⟩ = some (.slice B m.length d) := by rw [k2.out.cell]; rfl
  clear h h' hu hu' hs hW
  go_enter Tryz.func230, Tryz.ntmps230
  go_upto_region 2 with (fail)
  rw [← HW.out]
  go_region_held3 (fun w' => Hd (Below w.heap.size w w') ∧ w'.cell? ⟨w.heap.size, 0, none⟩ = some (.bool neg) ∧ w'.cell? ⟨w.heap.size, 1, none⟩ = some (.slice A l.length c) ∧ w'.cell? ⟨w.heap.size + 1, 1, none⟩ = some (.slice B m.length d) ∧ Hd (∃ a b, Bk w' (w.heap.size + 1 + 1) 258 #[a, b]))
    (first
      | exact hS
      | exact ⟨hb0, l10, l11, l21, ⟨_, _, k3.out⟩⟩
      | exact ⟨⟨hb0.out.drew⟩, l10, l11, l21, ⟨_, _, k3.out⟩⟩
      | exact ⟨⟨(hS.1.out.setCell (by first | (simp; done) | (simp; omega)) _).setCell (by first | (simp; done) | (simp; omega)) _⟩, by rw [far1 rfl (by first | (simp; done) | (simp; omega)), far1 rfl (by first | (simp; done) | (simp; omega))]; exact hS.2.1, by rw [far1 rfl (by first | (simp; done) | (simp; omega)), far1 rfl (by first | (simp; done) | (simp; omega))]; exact hS.2.2.1, by rw [far1 rfl (by first | (simp; done) | (simp; omega)), far1 rfl (by first | (simp; done) | (simp; omega))]; exact hS.2.2.2.1, ⟨_, _, (show Bk _ _ _ #[_, _] from hB3.out.set_ 0 _).set_ 1 _⟩⟩)
    (first
      | (go_at_call 261; obtain ⟨hB, q0, q1, q2, q3⟩ := ‹Hd (Below w.heap.size w _) ∧ _›; with_reducible refine (CA.out _ hB).mono ?_; rintro e w' ⟨x, rfl, ho, hb⟩
         obtain ⟨Av, cv, rfl, _, _, _⟩ := ho.reads
         obtain ⟨a3, b3, hq3⟩ := q3.out
         have hB3 := Hd.mk (hq3.up hb)
         have hS := And.intro (Hd.mk (hB.out.trans (hb.mono hB.out.size))) (And.intro (cell_up q0 hb) (And.intro (cell_up q1 hb) (And.intro (cell_up q2 hb) (Hd.mk (show ∃ a b, Bk w' (w.heap.size + 1 + 1) 258 #[a, b] from ⟨a3, b3, hB3.out⟩)))))
         have f30 : w'.frozen? ⟨w.heap.size + 1 + 1, 0, none⟩ = false := hB3.out.froz 0
         have f31 : w'.frozen? ⟨w.heap.size + 1 + 1, 1, none⟩ = false := hB3.out.froz 1
         have l30 : w'.cell? ⟨w.heap.size + 1 + 1, 0, none⟩ = some a3 := by rw [hB3.out.cell]; rfl
         have l31 : w'.cell? ⟨w.heap.size + 1 + 1, 1, none⟩ = some b3 := by rw [hB3.out.cell]; rfl
         have HX := Hd.mk (ho.low hB.out.size); clear ho))
  go_wp2_with fail
  have o1 := Hd.mk (HX.out.far (p := ⟨w.heap.size + 1 + 1, 0, none⟩) (own_ne HX.out hB3.out (by decide)) (.bool neg))
  have r1 := Hd.mk (show Bk _ _ _ #[_, _] from hB3.out.set_ 0 (.bool neg))
  have o2 := Hd.mk (o1.out.far (p := ⟨w.heap.size + 1 + 1, 1, none⟩) (own_ne o1.out r1.out (by decide)) (.slice Av (limbs (val l + val m)).length cv))
  have r2 := Hd.mk (show Bk _ _ _ #[.bool neg, .slice Av (limbs (val l + val m)).length cv] from r1.out.set_ 1 (.slice Av (limbs (val l + val m)).length cv))
  refine bodyPost_ret (res_sig rfl _ _ (w.heap.size + 1 + 1) #[.bool neg, .slice Av (limbs (val l + val m)).length cv] rfl ?k1 rfl) rfl ?_
  case k1 => exact r2.out
  rw [HP.out]
  exact ⟨_, rfl, o2.out, (hS.1.out.setCell (by simp; omega) _).setCell (by simp; omega) _⟩
end Go.Proofs.YtidjbiopneoeeaaGreat
