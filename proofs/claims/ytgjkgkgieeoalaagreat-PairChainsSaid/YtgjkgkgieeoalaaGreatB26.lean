/- Parts of the proof, joined: each theorem says what it shows. -/
import Derived.Test.YtgjkgkgieeoalaaGreatB01
import Derived.Test.YtgjkgkgieeoalaaGreatB22
import Derived.Test.YtgjkgkgieeoalaaGreatB04
import Derived.Test.YtgjkgkgieeoalaaGreatB11
import Derived.Test.YtgjkgkgieeoalaaGreatB10
import Derived.OrdersHeld
import Derived.StillTail
import Derived.Deep.QuietTactic
import Derived.PlainAid
set_option linter.unusedVariables false
set_option linter.unusedSimpArgs false
set_option maxHeartbeats 24000000
set_option maxRecDepth 100000
namespace Go.Proofs.YtgjkgkgieeoalaaGreat
open Go.RowKit
section
variable {P : Program} {ops : Array Oper} {Q : Exit → Act → World → Prop} {md : Region.Mode} {S : World → Prop} {n : Nat}
def wpAnyX (P : Program) (md : Region.Mode) (ops : Array Oper) (Q : Exit → Act → World → Prop) (S : World → Prop) (n : Nat) : Nat → Array Bool → Act → World → Prop
 | 0, listed, a, w => Region.ready md ops listed = [] ∧ Q .normal a w
 | fuel + 1, listed, a, w => (Region.ready md ops listed = [] → Q .normal a w) ∧
   ∀ i ∈ Region.ready md ops listed, wpOp P ops Q i (fun a' w' => (i < n → S w') ∧ wpAnyX P md ops Q S n fuel (listed.setIfInBounds i true) a' w') a w
theorem wpAny_of_X : ∀ (fuel : Nat) (listed : Array Bool) (a : Act) (w : World), wpAnyX P md ops Q S n fuel listed a w → wpAny P md ops Q fuel listed a w
 | 0, _, _, _, h => h
 | fuel + 1, _, _, _, h => ⟨h.1, fun i hi => wpOp_mono (fun a' w' h' => wpAny_of_X fuel _ a' w' h'.2) (h.2 i hi)⟩
theorem wpAnyX_first {i : Nat} {oi : Oper} {v : Value} (hi : ops[i]? = some oi) (hsel : ∀ (j : Nat) (o : Oper) cs b, ops[j]? = some o → o.op ≠ .select cs b)
    (hQ : ∀ c a w, Q (.panic c) (a.put oi.dst v) w → Q (.panic c) a w) (hwait : ∀ j, n ≤ j → j < ops.size → Region.waitsFor md ops j i = true) :
    ∀ (fuel : Nat) (listed : Array Bool) (a : Act) (w : World),
     (∀ j oj, ops[j]? = some oj → j ≠ i → listed.getD j true = false → (∀ e ∈ oj.after, Region.binds md e = true → e.on ≠ i) → oi.apart ops oj = true) →
     i ∈ Region.ready md ops listed → YieldsIf P ops S oi v a → S w →
     wpAnyX P md ops Q S n fuel (listed.setIfInBounds i true) (a.put oi.dst v) w → wpAnyX P md ops Q S n (fuel + 1) listed a w := by
 intro fuel
 induction fuel with
 | zero =>
   intro listed a w _ hr hy hS H
   refine ⟨fun h => (by rw [h] at hr; cases hr), fun j hj => ?_⟩
   by_cases hji : j = i
   ·subst hji; exact hy.wpOp hi hS ⟨fun _ => hS, H⟩
   ·have := ready_mono hj hji
    rw [H.1] at this
    cases this
 | succ fuel ih =>
   intro listed a w hfree hr hy hS H
   refine ⟨fun h => (by rw [h] at hr; cases hr), fun j hj => ?_⟩
   by_cases hji : j = i
   ·subst hji; exact hy.wpOp hi hS ⟨fun _ => hS, H⟩
   ·have h1 := H.2 j (ready_mono hj hji)
    obtain ⟨hjun, oj, hoj, hall⟩ := mem_ready.1 hj
    have hnot : ∀ e ∈ oj.after, Region.binds md e = true → e.on ≠ i := fun e he hb heq => by
     have h1 := hall e he hb
     have h0 := (mem_ready.1 hr).1
     rw [heq] at h1
     rcases Nat.lt_or_ge i listed.size with h' | h'
     ·simp [h'] at h0 h1; rw [h0] at h1; cases h1
     ·simp [Array.getElem?_eq_none h'] at h1
    have hjn : j < n := by
     rcases Nat.lt_or_ge j n with h' | h'
     ·exact h'
     ·obtain ⟨oj', hoj', e, he, hb, hon⟩ := Region.waitsFor_spec (hwait j h' (Array.getElem?_eq_some_iff.1 hoj).1)
      rw [hoj] at hoj'
      injection hoj' with hoj'
      subst hoj'
      exact absurd hon (hnot e he hb)
    have h2 := wpOp_putIf hoj (hfree j oj hoj hji hjun hnot) (fun cs b => hsel i oi cs b hi) (fun cs b => hsel j oj cs b hoj) hQ hy h1
    have hfree' : ∀ k ok, ops[k]? = some ok → k ≠ i → (listed.setIfInBounds j true).getD k true = false →
        (∀ e ∈ ok.after, Region.binds md e = true → e.on ≠ i) → oi.apart ops ok = true := fun k ok hk hki hun hno => by
     refine hfree k ok hk hki ?_ hno
     by_cases hjk : j = k
     ·subst hjk; exact hjun
     ·rw [getD_set_ne true hjk] at hun; exact hun
    refine wpOp_mono (fun a' w' h3 => ⟨h3.2.1, ih (listed.setIfInBounds j true) a' w' hfree' (ready_mono hr (Ne.symm hji)) h3.1 (h3.2.1 hjn) ?_⟩) h2
    rw [Array.setIfInBounds_comm _ _ hji]
    exact h3.2.2
def wpHead (P : Program) (ops : Array Oper) (S : World → Prop) (K : Act → Prop) : List Oper → Act → Prop
 | [], a => K a
 | o :: rest, a => ∃ v, YieldsIf P ops S o v a ∧ wpHead P ops S K rest (a.put o.dst v)
theorem wpHead_nil {K : Act → Prop} {a : Act} (h : K a) : wpHead P ops S K [] a := h
def wpTail (P : Program) (ops : Array Oper) (Q : Exit → Act → World → Prop) (S : World → Prop) (n : Nat) : Nat → List Oper → Act → World → Prop
 | _, [], a, w => Q .normal a w
 | k, o :: rest, a, w => if Region.wanted o (yielded ops a.tmps) = true then o.wp P a w (fun a' w' => (k < n → S w') ∧ wpTail P ops Q S n (k + 1) rest a' w') Q else (k < n → S w) ∧ wpTail P ops Q S n (k + 1) rest (a.put o.dst undef) w
theorem wpTail_nil {k : Nat} {a : Act} {w : World} (h : Q .normal a w) : wpTail P ops Q S n k [] a w := h
theorem wpTail_step {k : Nat} {o : Oper} {rest : List Oper} {a : Act} {w : World}
    (h : ∀ K : Act → World → Prop, (∀ a' w', (k < n → S w') → wpTail P ops Q S n (k + 1) rest a' w' → K a' w') → if Region.wanted o (yielded ops a.tmps) = true then o.wp P a w K Q else K (a.put o.dst undef) w) : wpTail P ops Q S n k (o :: rest) a w :=
 h _ fun _ _ h1 h2 => ⟨h1, h2⟩
theorem wpAnyX_seq : ∀ (l : List Oper) (k : Nat) (listed : Array Bool) (a : Act) (w : World), (∀ j, l[j]? = ops[k + j]?) → Region.seqB md ops l.length k listed = true → wpTail P ops Q S n k l a w → wpAnyX P md ops Q S n l.length listed a w
 | [], _, _, _, _, _, hB, h => ⟨by simpa [Region.seqB] using hB, h⟩
 | o :: l, k, listed, a, w, hl, hB, h => by
   have h0 : ops[k]? = some o := by simpa using (hl 0).symm
   simp only [List.length_cons, Region.seqB, Bool.and_eq_true, decide_eq_true_eq] at hB
   refine ⟨fun h1 => (by rw [hB.1] at h1; cases h1), fun i hi => ?_⟩
   rw [hB.1] at hi
   have hik : i = k := by simpa using hi
   subst hik
   have hw : wpOp P ops Q i (fun a' w' => (i < n → S w') ∧ wpTail P ops Q S n (i + 1) l a' w') a w := by
    have h' : (if Region.wanted o (yielded ops a.tmps) = true then o.wp P a w (fun a' w' => (i < n → S w') ∧ wpTail P ops Q S n (i + 1) l a' w') Q else (i < n → S w) ∧ wpTail P ops Q S n (i + 1) l (a.put o.dst undef) w) := h
    unfold wpOp
    simp only [h0]
    split
    ·rename_i hw; rw [if_pos hw] at h'; exact .inl h'
    ·rename_i hw; rw [if_neg hw] at h'; exact h'
   exact wpOp_mono (fun a' w' h' => ⟨h'.1, wpAnyX_seq l (i + 1) _ a' w' (fun j => by have := hl (j + 1); simpa [Nat.add_assoc, Nat.add_comm 1 j] using this) hB.2 h'.2⟩) hw
theorem wpAnyX_head {tail : List Oper} (hs : Region.noSelect ops = true) (hQ : ∀ c a d v w, Q (.panic c) (a.put d v) w → Q (.panic c) a w) (m : Nat) (hwait : ∀ i, i < m → ∀ j, n ≤ j → j < ops.size → Region.waitsFor md ops j i = true) (htl : ∀ j, tail[j]? = ops[m + j]?) :
    ∀ (l : List Oper) (k : Nat) (listed : Array Bool) (a : Act) (w : World), k + l.length = m → (∀ j, j < l.length → l[j]? = ops[k + j]?) → S w → Region.lexHead md ops tail.length l.length k listed = true →
     wpHead P ops S (fun a' => wpTail P ops Q S n m tail a' w) l a → wpAnyX P md ops Q S n (tail.length + l.length) listed a w
 | [], k, listed, a, w, hk, _, _, hB, h => by
   have : k = m := by simpa using hk
   subst this
   exact wpAnyX_seq tail k listed a w htl (by simpa [Region.lexHead] using hB) h
 | o :: l, k, listed, a, w, hk, hl, hS, hB, h => by
   have h0 : ops[k]? = some o := by simpa using (hl 0 (by simp)).symm
   simp only [List.length_cons, Region.lexHead, Bool.and_eq_true] at hB
   obtain ⟨⟨hr, hf⟩, hB'⟩ := hB
   obtain ⟨v, hy, hK⟩ := h
   have hkm : k < m := by simp only [List.length_cons] at hk; omega
   refine wpAnyX_first h0 (Region.noSelect_spec hs) (fun c a w h => hQ c a _ _ w h) (hwait k hkm) (tail.length + l.length) listed a w (Region.free_spec h0 hf) (by simpa using hr) hy hS ?_
   exact wpAnyX_head hs hQ m hwait htl l (k + 1) _ _ w (by simp only [List.length_cons] at hk; omega) (fun j hj => by have := hl (j + 1) (by simp; omega); simpa [Nat.add_assoc, Nat.add_comm 1 j] using this) hS hB' hK
def headB (ops : Array Oper) (m n : Nat) : Bool :=
 Region.noSelect ops && decide (m ≤ ops.size) && ((List.range m).all fun i => (List.range ops.size).all fun j => decide (j < n) || Region.waitsFor .any ops j i) && Region.lexHead .any ops (ops.size - m) m 0 (Array.replicate ops.size false)
theorem wp_region_head {id : Nat} {a : Act} {w : World} {l : List Oper} (m n : Nat) (S : World → Prop) (hm : P.follows .mixedOrders = true) (hB : headB l.toArray m n = true) (hQ : ∀ c a d v w, Q (.panic c) (a.put d v) w → Q (.panic c) a w) (hS : S w.drew)
    (h : wpHead P l.toArray S (fun a' => wpTail P l.toArray Q S n m (l.drop m) a' w.drew) (l.take m) a) : (Code.region id l.toArray true).wp P Q a w := by
 unfold headB at hB
 simp only [Bool.and_eq_true, decide_eq_true_eq] at hB
 obtain ⟨⟨⟨hsel, hms⟩, hwt⟩, hlex⟩ := hB
 have hms' : m ≤ l.length := by simpa using hms
 have htk : (l.take m).length = m := by rw [List.length_take]; omega
 have hdr : (l.drop m).length = l.toArray.size - m := by simp
 refine wp_region_any hm (wpAny_of_X (S := S) (n := n) _ _ _ _ ?_)
 have hwait : ∀ i, i < m → ∀ j, n ≤ j → j < l.toArray.size → Region.waitsFor .any l.toArray j i = true := fun i hi j hj hjs => by
  have h1 := List.all_eq_true.1 (List.all_eq_true.1 hwt i (List.mem_range.2 hi)) j (List.mem_range.2 hjs)
  simp only [Bool.or_eq_true, decide_eq_true_eq] at h1
  exact h1.resolve_left (by omega)
 have := wpAnyX_head (P := P) (Q := Q) (md := .any) (S := S) (n := n) (tail := l.drop m) hsel hQ m hwait (fun j => by simp [List.getElem?_drop]) (l.take m) 0 (Array.replicate l.toArray.size false) a w.drew (by rw [htk, Nat.zero_add])
  (fun j hj => by rw [htk] at hj; simp [hj]) hS (by rw [hdr, htk]; exact hlex) h
 rw [hdr, htk, show l.toArray.size - m + m = l.toArray.size by omega] at this
 exact this
end
section
variable {P : Program} {ops : Array Oper} {Q : Exit → Act → World → Prop} {md : Region.Mode} {n : Nat}
theorem wpAnyX_true : ∀ (fuel : Nat) (listed : Array Bool) (a : Act) (w : World), wpAny P md ops Q fuel listed a w → wpAnyX P md ops Q (fun _ => True) n fuel listed a w
 | 0, _, _, _, h => h
 | fuel + 1, _, _, _, h => ⟨h.1, fun i hi => wpOp_mono (fun a' w' h' => ⟨fun _ => trivial, wpAnyX_true fuel _ a' w' h'⟩) (h.2 i hi)⟩
def midB (ops : Array Oper) : Bool :=
 let l0 := Array.replicate ops.size false
 let l1 := l0.setIfInBounds 0 true
 let l2 := l1.setIfInBounds 2 true
 let l3 := l2.setIfInBounds 1 true
 Region.noSelect ops && decide (3 ≤ ops.size) && Region.free .any ops l0 0 && (Region.ready .any ops l0).contains 0 && Region.free .any ops l1 2 && (Region.ready .any ops l1).contains 2 && decide (Region.ready .any ops l2 = [1]) && Region.lexFrom .any ops (ops.size - 3) 3 l3
theorem wp_region_mid {id : Nat} {a : Act} {w : World} {o0 o1 o2 : Oper} {l : List Oper} (hm : P.follows .mixedOrders = true) (hB : midB (o0 :: o1 :: o2 :: l).toArray = true) (hQ : ∀ c a d v w, Q (.panic c) (a.put d v) w → Q (.panic c) a w) (v0 v2 : Value) (hg : o1.guard = none)
    (h0 : YieldsIf P (o0 :: o1 :: o2 :: l).toArray (fun _ => True) o0 v0 a) (h2 : YieldsIf P (o0 :: o1 :: o2 :: l).toArray (fun _ => True) o2 v2 (a.put o0.dst v0))
    (h1 : ∀ K : Act → World → Prop, (∀ a' w', (∃ C : World → Prop, C w' ∧ wpQuiet P (o0 :: o1 :: o2 :: l).toArray C (fun a'' => ∀ w'', C w'' → Q .normal a'' w'') l a') → K a' w') → o1.wp P ((a.put o0.dst v0).put o2.dst v2) w.drew K Q) :
    (Code.region id (o0 :: o1 :: o2 :: l).toArray true).wp P Q a w := by
 unfold midB at hB
 simp only [Bool.and_eq_true, decide_eq_true_eq, List.contains_iff_mem] at hB
 obtain ⟨⟨⟨⟨⟨⟨⟨hsel, hsz⟩, f0⟩, r0⟩, f2⟩, r2⟩, r1⟩, hlex⟩ := hB
 have hsize : (o0 :: o1 :: o2 :: l).toArray.size = l.length + 3 := by simp
 refine wp_region_any hm (wpAny_of_X (S := fun _ => True) (n := (o0 :: o1 :: o2 :: l).toArray.size) _ _ _ _ ?_)
 have e0 : (o0 :: o1 :: o2 :: l).toArray[0]? = some o0 := by simp
 have e1 : (o0 :: o1 :: o2 :: l).toArray[1]? = some o1 := by simp
 have e2 : (o0 :: o1 :: o2 :: l).toArray[2]? = some o2 := by simp
 refine (show wpAnyX P _ _ _ _ _ (l.length + 3) _ _ _ from ?_)
 refine wpAnyX_first e0 (Region.noSelect_spec hsel) (fun c a w h => hQ c a _ _ w h) (fun j hj hj2 => absurd hj2 (Nat.not_lt.2 hj)) (l.length + 2) _ a w.drew (Region.free_spec e0 f0) r0 h0 trivial ?_
 refine wpAnyX_first e2 (Region.noSelect_spec hsel) (fun c a w h => hQ c a _ _ w h) (fun j hj hj2 => absurd hj2 (Nat.not_lt.2 hj)) (l.length + 1) _ _ _ (Region.free_spec e2 f2) r2 h2 trivial ?_
 refine wpAnyX_true _ _ _ _ ⟨fun h => (by rw [r1] at h; cases h), fun i hi => ?_⟩
 rw [r1, List.mem_singleton] at hi
 subst hi
 unfold wpOp
 simp only [e1, Region.wanted, hg, if_true]
 refine .inl (h1 _ fun a' w' hC => ?_)
 obtain ⟨C, hw, hq⟩ := hC
 refine wpAny_of_quiet (C := C) (Q := fun a'' => ∀ w'', C w'' → Q .normal a'' w'') (fun a'' w'' hw'' h => h w'' hw'') _ _ _ _ hw ?_
 exact wpAnyQ_lex hsel l 3 _ _ (fun j => by simp [Nat.add_comm 3 j]) (by simpa using hlex) hq
end
end Go.Proofs.YtgjkgkgieeoalaaGreat
namespace Go.Proofs.YtgjkgkgieeoalaaGreat
open Go.RowKit Go.PlainAid
theorem gb_trans {w w' w'' : World} {row : Option Nat} (h : w.grownBy w' row) (k : w'.grownBy w'' row) : w.grownBy w'' row :=
 ⟨k.os.trans h.os, k.tape.trans h.tape, k.output.trans h.output, Nat.le_trans h.size k.size, fun b hb hne => (k.block b (Nat.lt_of_lt_of_le hb h.size) hne).trans (h.block b hb hne)⟩
theorem gb_of {w w' : World} {row : Option Nat} (h : Below w.heap.size w w') : w.grownBy w' row := ⟨h.os, h.tape, h.output, h.size, fun b hb _ => h.block b hb⟩
theorem gb_dn {w w' : World} {row : Option Nat} (h : w.grownBy w' row) (n : Nat) : w.grownBy (w'.drewN n) row := ⟨h.os, h.tape, h.output, h.size, h.block⟩
def tx (s : ByteArray) (at_ : Nat) (bad : Bool) : Array Value := #[.string s, .int .i64 at_, .bool bad]
def skipF (s : ByteArray) : Nat → Nat → Nat
 | 0, k => k
 | n + 1, k => if k < s.size ∧ bt s k = 32 then skipF s n (k + 1) else k
def skipD (s : ByteArray) (k : Nat) : Nat := skipF s (s.size - k) k
theorem skipF_ge (s : ByteArray) : ∀ (n k : Nat), k ≤ skipF s n k ∧ skipF s n k ≤ max k s.size
 | 0, k => ⟨Nat.le_refl _, by simp [skipF]; omega⟩
 | n + 1, k => by
   unfold skipF
   split
   ·rename_i h
    have := skipF_ge s n (k + 1)
    omega
   ·omega
theorem skipD_le {s : ByteArray} {k : Nat} (h : k ≤ s.size) : skipD s k ≤ s.size := by have := (skipF_ge s (s.size - k) k).2; unfold skipD; omega
theorem skipD_go {s : ByteArray} {k : Nat} (h : k < s.size) (hb : bt s k = 32) : skipD s k = skipD s (k + 1) := by
 unfold skipD
 rw [show s.size - k = (s.size - (k + 1)) + 1 by omega]
 conv => lhs; unfold skipF
 rw [if_pos ⟨h, hb⟩]
theorem skipD_end {s : ByteArray} {k : Nat} (h : ¬ (k < s.size ∧ bt s k = 32)) : skipD s k = k := by
 unfold skipD
 cases s.size - k with
 | zero => rfl
 | succ n => exact if_neg h
theorem text_skip (s : ByteArray) (k g : Nat) (bad : Bool) (w : World) (hk : Bk w g 244 (tx s k bad)) (hs : s.size ≤ maxLen) (hks : k ≤ s.size) :
    Calls Tryz.prog 297 #[.pointer (some ⟨g, 0, none⟩)] w fun e w' => e = .returned (.tuple #[]) ∧ Bk w' g 244 (tx s (skipD s k) bad) ∧ w.grownBy w' (some g) := by
 unfold maxLen at hs
 have HK := Hd.mk hk
 clear hk
 go_enter Tryz.func297, Tryz.ntmps297
 go_wp2_with fail
 go_loopg [5] (s.size - k) (fun n _ wr => ∃ i : Nat, n = s.size - i ∧ i ≤ s.size ∧ Hd (Bk wr g 244 (tx s i bad)) ∧ Hd (w.grownBy wr (some g)) ∧ Hd (skipD s k = skipD s i))
 case atStart => exact ⟨k, rfl, hks, HK, ⟨gb_of (Below.refl _ _)⟩, ⟨rfl⟩⟩
 case round =>
  obtain ⟨i, hn, hi, HB, HG, HE⟩ := hrel
  obtain ⟨q0, q1, q2⟩ := HB.out.three
  have fz := fun i => HB.out.froz i
  by_cases hlt : i < s.size
  ·have i1 : (i : Int) < s.size := by omega
   have i0 : (0 : Int) ≤ i := by omega
   have hb := get_bt s i hlt
   by_cases h32 : bt s i = 32
   ·have e1 : (bt s i == 32) = true := by rw [h32]; rfl
    have HN := Hd.mk (HE.out.trans (skipD_go hlt h32))
    clear h32
    go_wp2_with fail
    go_quiet (fail)
    go_wp2_with fail
    go_roundg (s.size - (i + 1))
    case measure => omega
    case rel => exact ⟨i + 1, rfl, by omega, ⟨(HB.out.dn nq).set_ 1 _⟩, ⟨(gb_dn HG.out nq).set 1 _⟩, HN⟩
   ·have e1 : (bt s i == 32) = false := by rw [beq_eq_false_iff_ne]; exact h32
    have HN := Hd.mk (HE.out.trans (skipD_end (fun h => h32 h.2)))
    clear h32
    go_wp2_with fail
    go_quiet (fail)
    go_wp2_with fail
    go_end0
    rw [HN.out]
    exact ⟨rfl, HB.out.dn nq, gb_dn HG.out nq⟩
  ·have i1 : ¬ (i : Int) < s.size := by omega
   have HN := Hd.mk (HE.out.trans (skipD_end (fun h => hlt h.1)))
   go_wp2_with fail
   go_quiet (fail)
   go_wp2_with fail
   go_end0
   rw [HN.out]
   exact ⟨rfl, HB.out.dn nq, gb_dn HG.out nq⟩
theorem text_next (s : ByteArray) (k g : Nat) (bad : Bool) (w : World) (hk : Bk w g 244 (tx s k bad)) (hs : s.size ≤ maxLen) (hks : k ≤ s.size) :
    Calls Tryz.prog 267 #[.pointer (some ⟨g, 0, none⟩)] w fun e w' => e = .returned (.int .u8 (bt s (skipD s k))) ∧ Bk w' g 244 (tx s (skipD s k) bad) ∧ w.grownBy w' (some g) := by
 have CS := Hd.mk (text_skip s k g bad w hk hs hks)
 unfold maxLen at hs
 have hle := skipD_le hks
 obtain ⟨i, hi⟩ : ∃ i, skipD s k = i := ⟨_, rfl⟩
 rw [hi] at CS hle ⊢
 clear hk hi hks
 go_enter Tryz.func267, Tryz.ntmps267
 go_wp2_with fail
 refine CS.out.mono ?_
 rintro e w2 ⟨rfl, hB, hG⟩
 have HB := Hd.mk hB
 have HG := Hd.mk hG
 obtain ⟨q0, q1, q2⟩ := hB.three
 clear CS hB hG
 by_cases hlt : i < s.size
 ·have i1 : (i : Int) < s.size := by omega
  have i0 : (0 : Int) ≤ i := by omega
  have hb := get_bt s i hlt
  go_wp2_with fail
  go_quiet (fail)
  go_wp2_with fail
  go_quiet (fail)
  go_wp2_with fail
  go_ret
  exact ⟨rfl, (HB.out.dn _).dn _, gb_dn (gb_dn HG.out _) _⟩
 ·have i1 : ¬ (i : Int) < s.size := by omega
  have hb := bt_end s (Nat.le_of_not_lt hlt)
  go_wp2_with fail
  go_quiet (fail)
  go_wp2_with fail
  go_ret
  rw [hb]
  exact ⟨rfl, HB.out.dn _, gb_dn HG.out _⟩
def eatB (s : ByteArray) (k : Nat) (c : Int) : Bool := bt s (skipD s k) == c && decide (skipD s k < s.size)
def eatK (s : ByteArray) (k : Nat) (c : Int) : Nat := if eatB s k c = true then skipD s k + 1 else skipD s k
theorem eatK_le {s : ByteArray} {k : Nat} {c : Int} (h : k ≤ s.size) : eatK s k c ≤ s.size := by
 have := skipD_le h
 unfold eatK
 split
 ·rename_i h2
  unfold eatB at h2
  simp only [Bool.and_eq_true, decide_eq_true_eq] at h2
  omega
 ·exact this
theorem text_eat (s : ByteArray) (k g : Nat) (bad : Bool) (c : Int) (w : World) (hk : Bk w g 244 (tx s k bad)) (hs : s.size ≤ maxLen) (hks : k ≤ s.size) :
    Calls Tryz.prog 266 #[.pointer (some ⟨g, 0, none⟩), .int .u8 c] w fun e w' => e = .returned (.bool (eatB s k c)) ∧ Bk w' g 244 (tx s (eatK s k c) bad) ∧ w.grownBy w' (some g) := by
 have CS := Hd.mk (fun W (hW : Bk W g 244 (tx s k bad)) => text_next s k g bad W hW hs hks)
 have HK := Hd.mk hk
 unfold maxLen at hs
 have hle := skipD_le hks
 obtain ⟨B, hB⟩ : ∃ B, eatB s k c = B := ⟨_, rfl⟩
 obtain ⟨KK, hK⟩ : ∃ KK, eatK s k c = KK := ⟨_, rfl⟩
 have HB := Hd.mk hB
 have HKK := Hd.mk hK
 rw [hB, hK]
 unfold eatK at HKK
 rw [hB] at HKK
 unfold eatB at HB
 obtain ⟨i, hi⟩ : ∃ i, skipD s k = i := ⟨_, rfl⟩
 rw [hi] at CS hle HB HKK
 clear hk hi hks hB hK
 by_cases hc : bt s i = c
 ·by_cases hlt : i < s.size
  ·have i1 : ¬ (s.size : Int) ≤ i := by omega
   have e1 : (bt s i != c) = false := by rw [bne_eq_false_iff_eq]; exact hc
   have hBt : Hd (B = true) := ⟨by rw [← HB.out, hc, decide_eq_true hlt]; simp⟩
   have hKt : Hd (KK = i + 1) := ⟨by rw [← HKK.out, hBt.out]; exact if_pos rfl⟩
   clear hc HB HKK
   go_enter Tryz.func266, Tryz.ntmps266
   go_wp2_with fail
   refine wp_region_mid (by kernel_rfl) (by kernel_rfl) (fun c a d v w h => by cases d <;> exact h) (.pointer (some ⟨g, 0, none⟩)) (.int .u8 c) rfl (Or.inl ⟨by rfl, fun W _ => by go_simp; try with_reducible rfl⟩) (Or.inl ⟨by rfl, fun W _ => by go_simp; try with_reducible rfl⟩) ?_
   intro K hK
   simp only [Act.put, List.setIfInBounds_toArray, List.set_cons_zero, List.set_cons_succ]
   go_simp
   refine (CS.out _ HK.out.d1).mono ?_
   rintro e w2 ⟨rfl, hb2, hG⟩
   have HB2 := Hd.mk hb2
   have HG := Hd.mk hG
   obtain ⟨q0, q1, q2⟩ := hb2.three
   refine hK _ _ ⟨fun W => ∃ n, W = w2.drewN n, ⟨0, rfl⟩, ?_⟩
   clear hK K hb2 hG CS
   repeat (go_big_quiet_step (fail))
   refine wpQuiet_nil fun W hW => ?_
   obtain ⟨nq, rfl⟩ := hW
   have fz := fun i => HB2.out.froz i
   go_wp2_with fail
   go_ret
   rw [hBt.out, hKt.out]
   exact ⟨rfl, (HB2.out.dn nq).set_ 1 _, gb_trans (gb_dn (gb_of (Below.refl _ _)) 1) ((gb_dn HG.out nq).set 1 _)⟩
  ·have i1 : (s.size : Int) ≤ i := by omega
   have e1 : (bt s i != c) = false := by rw [bne_eq_false_iff_eq]; exact hc
   have hBt : Hd (B = false) := ⟨by rw [← HB.out, decide_eq_false hlt, Bool.and_false]⟩
   have hKt : Hd (KK = i) := ⟨by rw [← HKK.out, hBt.out]; exact if_neg (by simp)⟩
   clear hc HB HKK
   go_enter Tryz.func266, Tryz.ntmps266
   go_wp2_with fail
   refine wp_region_mid (by kernel_rfl) (by kernel_rfl) (fun c a d v w h => by cases d <;> exact h) (.pointer (some ⟨g, 0, none⟩)) (.int .u8 c) rfl (Or.inl ⟨by rfl, fun W _ => by go_simp; try with_reducible rfl⟩) (Or.inl ⟨by rfl, fun W _ => by go_simp; try with_reducible rfl⟩) ?_
   intro K hK
   simp only [Act.put, List.setIfInBounds_toArray, List.set_cons_zero, List.set_cons_succ]
   go_simp
   refine (CS.out _ HK.out.d1).mono ?_
   rintro e w2 ⟨rfl, hb2, hG⟩
   have HB2 := Hd.mk hb2
   have HG := Hd.mk hG
   obtain ⟨q0, q1, q2⟩ := hb2.three
   refine hK _ _ ⟨fun W => ∃ n, W = w2.drewN n, ⟨0, rfl⟩, ?_⟩
   clear hK K hb2 hG CS
   repeat (go_big_quiet_step (fail))
   refine wpQuiet_nil fun W hW => ?_
   obtain ⟨nq, rfl⟩ := hW
   go_wp2_with fail
   go_ret
   rw [hBt.out, hKt.out]
   exact ⟨rfl, HB2.out.dn nq, gb_trans (gb_dn (gb_of (Below.refl _ _)) 1) (gb_dn HG.out nq)⟩
 ·have e1 : (bt s i != c) = true := by rw [bne_iff_ne]; exact hc
  have hBt : Hd (B = false) := ⟨by rw [← HB.out, beq_eq_false_iff_ne.2 hc, Bool.false_and]⟩
  have hKt : Hd (KK = i) := ⟨by rw [← HKK.out, hBt.out]; exact if_neg (by simp)⟩
  clear hc HB HKK
  go_enter Tryz.func266, Tryz.ntmps266
  go_wp2_with fail
  refine wp_region_mid (by kernel_rfl) (by kernel_rfl) (fun c a d v w h => by cases d <;> exact h) (.pointer (some ⟨g, 0, none⟩)) (.int .u8 c) rfl (Or.inl ⟨by rfl, fun W _ => by go_simp; try with_reducible rfl⟩) (Or.inl ⟨by rfl, fun W _ => by go_simp; try with_reducible rfl⟩) ?_
  intro K hK
  simp only [Act.put, List.setIfInBounds_toArray, List.set_cons_zero, List.set_cons_succ]
  go_simp
  refine (CS.out _ HK.out.d1).mono ?_
  rintro e w2 ⟨rfl, hb2, hG⟩
  have HB2 := Hd.mk hb2
  have HG := Hd.mk hG
  obtain ⟨q0, q1, q2⟩ := hb2.three
  refine hK _ _ ⟨fun W => ∃ n, W = w2.drewN n, ⟨0, rfl⟩, ?_⟩
  clear hK K hb2 hG CS
  repeat (go_big_quiet_step (fail))
  refine wpQuiet_nil fun W hW => ?_
  obtain ⟨nq, rfl⟩ := hW
  go_wp2_with fail
  go_ret
  rw [hBt.out, hKt.out]
  exact ⟨rfl, HB2.out.dn nq, gb_trans (gb_dn (gb_of (Below.refl _ _)) 1) (gb_dn HG.out nq)⟩
theorem ref_digit (c : Int) (w : World) :
    Calls Tryz.prog 322 #[.int .u8 c] w fun e w' => e = .returned (.bool (decide (48 ≤ c) && decide (c ≤ 57))) ∧ w = w' := by
 by_cases h1 : (48 : Int) ≤ c
 ·by_cases h2 : c ≤ 57
  ·have e : (decide (48 ≤ c) && decide (c ≤ 57)) = true := by rw [decide_eq_true h1, decide_eq_true h2]; rfl
   rw [e]
   clear e
   go_enter Tryz.func322, Tryz.ntmps322
   go_wp2_with fail
   go_ret
   exact ⟨rfl, rfl⟩
  ·have e : (decide (48 ≤ c) && decide (c ≤ 57)) = false := by rw [decide_eq_false h2, Bool.and_false]
   rw [e]
   clear e
   go_enter Tryz.func322, Tryz.ntmps322
   go_wp2_with fail
   go_ret
   exact ⟨rfl, rfl⟩
 ·have e : (decide (48 ≤ c) && decide (c ≤ 57)) = false := by rw [decide_eq_false h1, Bool.false_and]
  rw [e]
  clear e
  go_enter Tryz.func322, Tryz.ntmps322
  go_wp2_with fail
  go_ret
  exact ⟨rfl, rfl⟩
def varD (c : Int) : Int := if c = 120 then 0 else if c = 121 then 1 else if c = 122 then 2 else if c = 119 then 3 else -1
theorem ref_variable (c : Int) (w : World) :
    Calls Tryz.prog 314 #[.int .u8 c] w fun e w' => e = .returned (.int .i64 (varD c)) ∧ w = w' := by
 have n0 : (((⟨#[120, 121, 122, 119]⟩ : ByteArray)[0]'(by decide)).toNat : Int) = 120 := rfl
 have n1 : (((⟨#[120, 121, 122, 119]⟩ : ByteArray)[1]'(by decide)).toNat : Int) = 121 := rfl
 have n2 : (((⟨#[120, 121, 122, 119]⟩ : ByteArray)[2]'(by decide)).toNat : Int) = 122 := rfl
 have n3 : (((⟨#[120, 121, 122, 119]⟩ : ByteArray)[3]'(by decide)).toNat : Int) = 119 := rfl
 obtain ⟨V, hV⟩ : ∃ V, varD c = V := ⟨_, rfl⟩
 rw [hV]
 have HV := Hd.mk hV
 unfold varD at HV
 clear hV
 go_enter Tryz.func314, Tryz.ntmps314
 go_wp2_with fail
 go_loop [3] (fun v => ∃ i : Nat, v = .int .i64 i ∧ i ≤ 4 ∧ Hd (0 < i → c ≠ 120) ∧ Hd (1 < i → c ≠ 121) ∧ Hd (2 < i → c ≠ 122) ∧ Hd (3 < i → c ≠ 119)) (fun v => 4 - (intOf v).toNat)
 case atStart => exact ⟨0, rfl, by omega, ⟨fun h => by omega⟩, ⟨fun h => by omega⟩, ⟨fun h => by omega⟩, ⟨fun h => by omega⟩⟩
 case round =>
  obtain ⟨i, rfl, hi, h0, h1, h2, h3⟩ := hrel
  rcases (show i = 0 ∨ i = 1 ∨ i = 2 ∨ i = 3 ∨ i = 4 by omega) with rfl | rfl | rfl | rfl | rfl
  ·by_cases hc : c = 120
   ·have e : ((120 : Int) == c) = true := by rw [hc]; rfl
    have HT : Hd (V = 0) := ⟨by rw [← HV.out, if_pos hc]⟩
    clear hc
    go_wp2_with fail
    go_ret
    rw [HT.out]
    exact ⟨rfl, rfl⟩
   ·have e : ((120 : Int) == c) = false := by rw [beq_eq_false_iff_ne]; exact fun h => hc h.symm
    have HC := Hd.mk hc
    clear hc
    go_wp2_with fail
    go_round
    case measure => first | (simp [intOf]; done) | (simp [intOf]; omega)
    case rel => exact ⟨1, rfl, by omega, ⟨fun _ => HC.out⟩, ⟨fun h => by omega⟩, ⟨fun h => by omega⟩, ⟨fun h => by omega⟩⟩
  ·by_cases hc : c = 121
   ·have e : ((121 : Int) == c) = true := by rw [hc]; rfl
    have HT : Hd (V = 1) := ⟨by rw [← HV.out, if_neg (h0.out (by omega)), if_pos hc]⟩
    clear hc
    go_wp2_with fail
    go_ret
    rw [HT.out]
    exact ⟨rfl, rfl⟩
   ·have e : ((121 : Int) == c) = false := by rw [beq_eq_false_iff_ne]; exact fun h => hc h.symm
    have HC := Hd.mk hc
    clear hc
    go_wp2_with fail
    go_round
    case measure => first | (simp [intOf]; done) | (simp [intOf]; omega)
    case rel => exact ⟨2, rfl, by omega, ⟨fun _ => h0.out (by omega)⟩, ⟨fun _ => HC.out⟩, ⟨fun h => by omega⟩, ⟨fun h => by omega⟩⟩
  ·by_cases hc : c = 122
   ·have e : ((122 : Int) == c) = true := by rw [hc]; rfl
    have HT : Hd (V = 2) := ⟨by rw [← HV.out, if_neg (h0.out (by omega)), if_neg (h1.out (by omega)), if_pos hc]⟩
    clear hc
    go_wp2_with fail
    go_ret
    rw [HT.out]
    exact ⟨rfl, rfl⟩
   ·have e : ((122 : Int) == c) = false := by rw [beq_eq_false_iff_ne]; exact fun h => hc h.symm
    have HC := Hd.mk hc
    clear hc
    go_wp2_with fail
    go_round
    case measure => first | (simp [intOf]; done) | (simp [intOf]; omega)
    case rel => exact ⟨3, rfl, by omega, ⟨fun _ => h0.out (by omega)⟩, ⟨fun _ => h1.out (by omega)⟩, ⟨fun _ => HC.out⟩, ⟨fun h => by omega⟩⟩
  ·by_cases hc : c = 119
   ·have e : ((119 : Int) == c) = true := by rw [hc]; rfl
    have HT : Hd (V = 3) := ⟨by rw [← HV.out, if_neg (h0.out (by omega)), if_neg (h1.out (by omega)), if_neg (h2.out (by omega)), if_pos hc]⟩
    clear hc
    go_wp2_with fail
    go_ret
    rw [HT.out]
    exact ⟨rfl, rfl⟩
   ·have e : ((119 : Int) == c) = false := by rw [beq_eq_false_iff_ne]; exact fun h => hc h.symm
    have HC := Hd.mk hc
    clear hc
    go_wp2_with fail
    go_round
    case measure => first | (simp [intOf]; done) | (simp [intOf]; omega)
    case rel => exact ⟨4, rfl, by omega, ⟨fun _ => h0.out (by omega)⟩, ⟨fun _ => h1.out (by omega)⟩, ⟨fun _ => h2.out (by omega)⟩, ⟨fun _ => HC.out⟩⟩
  ·have HT : Hd (V = -1) := ⟨by rw [← HV.out, if_neg (h0.out (by omega)), if_neg (h1.out (by omega)), if_neg (h2.out (by omega)), if_neg (h3.out (by omega))]⟩
   go_wp2_with fail
   go_ret
   rw [HT.out]
   exact ⟨rfl, rfl⟩
end Go.Proofs.YtgjkgkgieeoalaaGreat
namespace Go.Proofs.YtgjkgkgieeoalaaGreat
open Go.RowKit
def fromF (b : Int) : Nat → List Int → Int × List Int
 | v, [] => (0, limbs v)
 | v, d :: ds => if 8 < (limbs (v * b.toNat + d.toNat)).length then (21, []) else fromF b (v * b.toNat + d.toNat) ds
theorem fromF_big {b d : Int} {v : Nat} {ds : List Int} (h : 8 < (limbs (v * b.toNat + d.toNat)).length) : fromF b v (d :: ds) = (21, []) := if_pos h
theorem fromF_go {b d : Int} {v : Nat} {ds : List Int} (h : ¬ 8 < (limbs (v * b.toNat + d.toNat)).length) : fromF b v (d :: ds) = fromF b (v * b.toNat + d.toNat) ds := if_neg h
theorem take_rev {l : List Int} {i : Nat} {d : Int} (h : l[i]? = some d) : (l.take (i + 1)).reverse = d :: (l.take i).reverse := by
 rw [List.take_add_one, h]
 simp
theorem RdI.of_bk1 {w : World} {g : Nat} {x : Int} (h : Bk w g 112 #[.int .u64 x]) : RdI w .u64 (some ⟨g, 0, none⟩) [x] := by
 refine ⟨by simp [ints], fun _ => ⟨_, rfl, h.lt, fun j u hu => ?_⟩⟩
 cases j with
 | zero =>
   simp only [ints, List.map_cons, List.map_nil, List.getElem?_cons_zero, Option.some.injEq] at hu
   subst hu
   rw [show ((⟨g, 0, none⟩ : Addr).add 0) = ⟨g, 0, none⟩ by unfold Addr.add; simp]
   exact h.one
 | succ j => simp [ints] at hu
theorem Bk.new2 (w : World) (o : Obj) (t : TypeId) (cs : Array Value) : Bk ((w.alloc o).alloc (.cells cs t)) (w.heap.size + 1) t cs := by
 have := Bk.new_ (w.alloc o) t cs
 rwa [World.size_alloc] at this
theorem u64_one {x : Int} (h0 : 0 ≤ x) (h1 : x < 18446744073709551616) : U64 [x] := U64.nil.cons h0 h1
theorem val_one1 {x : Int} : val [x] = x.toNat := by simp [val]
theorem ref_From (A : Option Addr) (c : Nat) (l : List Int) (b : Int) (w : World) (h : RdI w .u64 A l) (h9 : l.length ≤ 100000) (hb2 : 2 ≤ b) (hb64 : b < 18446744073709551616) (hd : ∀ d ∈ l, 0 ≤ d ∧ d < b) :
    Calls Tryz.prog 298 #[.slice A l.length c, .int .u64 b] w fun e w' => ∃ v, e = .returned (.tuple #[v, .int .i64 (fromF b 0 l.reverse).1]) ∧ OwnI w' w.heap.size 112 .u64 v (fromF b 0 l.reverse).2 ∧ Below w.heap.size w w' := by
 obtain ⟨E, hE⟩ : ∃ E, fromF b 0 l.reverse = E := ⟨_, rfl⟩
 rw [hE]
 have HE := Hd.mk hE
 have HP := Hd.mk h
 have HDD := Hd.mk hd
 clear hE h hd
 have hb3 : ¬ b < 2 := by omega
 go_enter Tryz.func298, Tryz.ntmps298
 go_wp2_with fail
 go_loop [6] (fun v => ∃ i : Nat, v = .int .i64 i ∧ i ≤ l.length) (fun v => l.length - (intOf v).toNat)
 case atStart => exact ⟨0, rfl, by omega⟩
 case round =>
  obtain ⟨i, rfl, hi⟩ := hrel
  by_cases hlt : i < l.length
  ·have i1 : (i : Int) < l.length := by omega
   have i3 : (0 : Int) ≤ i := by omega
   obtain ⟨ad, x, rfl, _, hx, hc⟩ := HP.out.get hlt
   have hxb : 0 ≤ x ∧ x < b := by
    have h1 := HDD.out (l.getD i 0) (by rw [List.getD_eq_getElem?_getD, List.getElem?_eq_getElem hlt]; exact List.getElem_mem hlt)
    rw [hx.out] at h1
    exact h1
   have hxb2 : ¬ b ≤ x := by omega
   go_wp2_with fail
   go_round
   case measure => first | (simp [intOf]; done) | (simp [intOf]; omega)
   case rel => exact ⟨i + 1, by go_num, by omega⟩
  have i1 : ¬ (i : Int) < l.length := by omega
  go_wp2_with fail
  have HO0 : Hd (OwnI (w.alloc (.cells #[] 112)) w.heap.size 112 .u64 (.slice (some ⟨w.heap.size, 0, none⟩) 0 0) (limbs 0)) := ⟨by
   rw [limbs_zero]
   exact World.ownsRow_lit (e := 112) (size := 1) w #[] 0 (Nat.le_refl _) (by unfold maxLen; omega) rfl⟩
  go_loopw [7, 8] (fun v7 v8 wr => ∃ (v i : Nat) (x : Int), v8 = .int .i64 x ∧ x = (i : Int) - 1 ∧ i ≤ l.length ∧ Hd (OwnI wr w.heap.size 112 .u64 v7 (limbs v)) ∧ Hd (Below w.heap.size w wr) ∧ Hd (fromF b v (l.take i).reverse = E) ∧ Hd ((limbs v).length ≤ 8)) (fun _ v _ => (intOf v + 1).toNat)
  case atStart => exact ⟨0, l.length, _, rfl, rfl, Nat.le_refl _, HO0, ⟨(Below.refl _ _).alloc (Nat.le_refl _) _⟩, ⟨by rw [List.take_length]; exact HE.out⟩, ⟨by rw [limbs_zero]; simp⟩⟩
  case round =>
   clear HO0 i1
   obtain ⟨v, i, x, rfl, hx, hi, HO, HB, HF, H8⟩ := hrel
   obtain ⟨Ax, cx, rfl, hcx, hmx, hrx⟩ := HO.out.reads
   cases i with
   | zero =>
     have hx0 : ¬ (0 : Int) ≤ x := by omega
     have HT : Hd (E = (0, limbs v)) := ⟨by rw [← HF.out]; rfl⟩
     go_wp2_with fail
     go_ret2
     rw [HT.out]
     exact ⟨_, rfl, HO.out, HB.out⟩
   | succ j =>
     have hx0 : (0 : Int) ≤ x := by omega
     have hxl : x < l.length := by omega
     have hjl : j < l.length := by omega
     have hxj : x = j := by omega
     subst hxj
     obtain ⟨ad, d, rfl, _, hd, hcd⟩ := (HP.out.up HB.out).get hjl
     have e1 : l[j]? = some d := by
      have h1 := hd.out
      rw [List.getD_eq_getElem?_getD, List.getElem?_eq_getElem hjl] at h1
      rw [List.getElem?_eq_getElem hjl]
      simpa using h1
     have hdb := HDD.out d (List.mem_of_getElem? e1)
     have HF2 : Hd (fromF b v (d :: (l.take j).reverse) = E) := ⟨by rw [← take_rev e1]; exact HF.out⟩
     clear HF e1 hx
     go_wp2_with fail
     obtain ⟨V1, hV1⟩ : ∃ V1, v * b.toNat = V1 := ⟨_, rfl⟩
     obtain ⟨V2, hV2⟩ : ∃ V2, V1 + d.toNat = V2 := ⟨_, rfl⟩
     have h8v := H8.out
     have hbl : (limbs V1).length ≤ 100 := limbs_len.2 (by
      rw [← hV1]
      have h1 := limbs_len.1 h8v
      have h2 : b.toNat ≤ 18446744073709551616 := by omega
      calc v * b.toNat ≤ v * 18446744073709551616 := Nat.mul_le_mul_left _ h2
       _ < 18446744073709551616 ^ 8 * 18446744073709551616 := Nat.mul_lt_mul_of_pos_right h1 (by omega)
       _ ≤ 18446744073709551616 ^ 100 := by rw [← Nat.pow_succ]; exact Nat.pow_le_pow_right (by omega) (by omega))
     have CM := Hd.mk (fun W g (hB : Below wr.heap.size wr W) (hk : Bk W g 112 #[.int .u64 b]) => ref_Mul Ax (some ⟨g, 0, none⟩) cx 1 (limbs v) [b] W (hrx.up hB) hcx (by omega) (RdI.of_bk1 hk) (by simp) (by simp) (limbs_u64 _) (u64_one (by omega) hb64))
     have CA := Hd.mk (fun W AX cX g (hB : RdI W .u64 AX (limbs V1)) (hcX : (limbs V1).length ≤ cX) (hk : Bk W g 112 #[.int .u64 d]) => ref_Add AX (some ⟨g, 0, none⟩) cX 1 (limbs V1) [d] W hB hcX (by omega) (RdI.of_bk1 hk) (by simp) (by simp) (limbs_u64 _) (u64_one hdb.1 (by omega)))
     simp only [val_limbs, val_one1, hV1, List.length_cons, List.length_nil, Nat.zero_add] at CM
     simp only [val_limbs, val_one1, hV2, List.length_cons, List.length_nil, Nat.zero_add] at CA
     have SO := Hd.mk (fun W (hB : Below wr.heap.size wr W) => And.intro (Hd.mk hB) (cell_up hcd hB))
     go_region_held3 (fun W => Hd (Below wr.heap.size wr W) ∧ W.cell? (ad.add j) = some (.int .u64 d))
      (first
       | with_reducible exact SO.out _ (.refl _ _)
       | with_reducible exact SO.out _ (Below.refl _ _).drew
       | with_reducible exact SO.out _ ((Below.refl _ _).alloc (Nat.le_refl _) _).drew
       | with_reducible exact SO.out _ (((Below.refl _ _).alloc (Nat.le_refl _) _).alloc (by simp) _).drew
       | with_reducible exact SO.out _ hB6
       | with_reducible exact SO.out _ hB5
       | with_reducible exact SO.out _ (hB5.alloc hB5.size _)
       | fail)
      (first
       | (go_at_call 259; have hB := ‹Hd (Below wr.heap.size wr _) ∧ _›.1; with_reducible refine (CM.out _ _ hB.out (by first | exact (Bk.new_ _ _ _).d1 | exact ((Bk.new_ _ _ _).al _).d1 | exact (Bk.new2 _ _ _ _).d1)).mono ?_; rintro e w5 ⟨x, rfl, hx, hb⟩
          have hB5 := hB.out.trans (hb.mono hB.out.size)
          have hb5 := hb
          obtain ⟨AX, cX, rfl, hcX, _, hrX⟩ := hx.reads
          have HRX := Hd.mk hrX)
       | (go_at_call 258; have hB := ‹Hd (Below wr.heap.size wr _) ∧ _›.1; with_reducible refine (CA.out _ _ _ _ (by first | exact HRX.out | exact HRX.out.up ((Below.refl _ _).alloc (Nat.le_refl _) _)) hcX (by first | exact Bk.new_ _ _ _ | exact (((Bk.new_ wr _ _).al _).d1.up hb5) | exact ((Bk.new2 wr _ _ _).d1.up hb5))).mono ?_; rintro e w6 ⟨y, rfl, hy, hb⟩
          have hB6 := hB.out.trans (hb.mono hB.out.size)
          have HY := Hd.mk (hy.low (Nat.le_trans HB.out.size hB.out.size))
          obtain ⟨AY, cY, rfl, hcY, _, _⟩ := hy.reads))
     all_goals
      have HB6 := Hd.mk (HB.out.trans (hB6.mono HB.out.size))
      clear CM CA SO hbl h8v
      by_cases hbig : 8 < (limbs V2).length
      ·have hbig' : (8 : Int) < (limbs V2).length := by omega
       have HT : Hd (E = (21, [])) := ⟨by rw [← HF2.out]; exact fromF_big (by rw [hV1, hV2]; exact hbig)⟩
       clear hbig hV1 hV2
       go_wp2_with fail
       go_ret2
       rw [HT.out]
       exact ⟨_, rfl, OwnI.nil _ _ _ _, HB6.out⟩
      ·have hbig' : ¬ (8 : Int) < (limbs V2).length := by omega
       have HT : Hd (fromF b V2 (l.take j).reverse = E) := ⟨by rw [← HF2.out, fromF_go (by rw [hV1, hV2]; exact hbig), hV1, hV2]⟩
       have H82 : Hd ((limbs V2).length ≤ 8) := ⟨by omega⟩
       clear hbig hV1 hV2
       go_wp2_with fail
       go_roundw
       case measure => simp [intOf]
       case rel => exact ⟨V2, j, (j : Int) - 1, rfl, rfl, by omega, HY, HB6, HT, H82⟩
end Go.Proofs.YtgjkgkgieeoalaaGreat
