/- Parts of the proof, joined: each theorem says what it shows. -/
import Derived.Test.YtgjkgkgieeoalaaGreatE01
import Derived.Test.YtgjkgkgieeoalaaGreatE02
import Derived.Deep.QuietTactic
import Derived.OrdersHeld
import Derived.StillTail
import Derived.RangeFuncNested
import Derived.RangeFuncBound
import Derived.RangeFuncCalls
import Derived.RangeFuncLeaves
import Derived.RangeFuncBox
import Derived.Shelf.Abstract
import Derived.Shelf.RegionOpen
import Derived.WalkKit
import Derived.OwnWalkIn
import Derived.TacticsInMore
import Derived.LoopNIn
import Derived.LoopIn
import Derived.Maps.AppendAt
set_option linter.unusedVariables false
set_option linter.unusedSimpArgs false
set_option maxHeartbeats 24000000
set_option maxRecDepth 100000
namespace Go.Proofs.YtgjkgkgieeoalaaGreat
open Go.RowKit
def Wd (w0 : World) : Type := {W : World // Below w0.heap.size w0 W}
def Wd.w {w0 : World} (n : Wd w0) : World := n.1
theorem Wd.lo {w0 : World} (n : Wd w0) : Below w0.heap.size w0 n.w := n.2
instance (w0 : World) : Nonempty (Wd w0) := ⟨⟨w0, .refl _ _⟩⟩
theorem Wd.cell {w0 : World} {p : Addr} {v : Value} (h : w0.cell? p = some v) : ∀ n : Wd w0, n.w.cell? p = some v := fun n => cell_up h n.lo
section
variable {P : Program} {w0 : World}
theorem Wd.call {f : FuncId} {args : Array Value} {v : Value} {n : Wd w0} (h : Calls P f args n.w fun e w' => e = .returned v ∧ Below n.w.heap.size n.w w') : Calls P f args n.w fun e w' => e = .returned v ∧ ∃ m : Wd w0, w' = m.w :=
 h.mono fun _ w' ⟨he, hb⟩ => ⟨he, ⟨w', n.lo.trans (hb.mono n.lo.size)⟩, rfl⟩
theorem wp_region_wd {id : Nat} {Q : Exit → Act → World → Prop} {a : Act} {w : World} {l : List Oper} (w0 : World) (hm : P.follows .mixedOrders = true) (hB : Region.lexB .any l.toArray = true) (hC : Below w0.heap.size w0 w.drew)
    (h : wpQuiet P l.toArray (fun W => ∃ n : Wd w0, W = n.w) (fun a' => ∀ w', (∃ n : Wd w0, w' = n.w) → Q .normal a' w') l a) : (Code.region id l.toArray true).wp P Q a w :=
 wp_region_quiet (C := fun W => ∃ n : Wd w0, W = n.w) hm hB ⟨⟨w.drew, hC⟩, rfl⟩ (by simpa using h)
theorem wd_nil {ops : Array Oper} {a : Act} {C : World → Prop} {Q : Exit → Act → World → Prop} (h : ∀ n : Wd w0, Q .normal a n.w) : wpQuiet P ops C (fun a' => ∀ w', (∃ n : Wd w0, w' = n.w) → Q .normal a' w') [] a :=
 wpQuiet_nil fun _ ⟨n, e⟩ => e ▸ h n
end
theorem Wd.at7 {w : World} {p : Addr} {v0 v1 v2 v3 v4 v5 v6 : Value} (q0 : w.cell? p = some v0) (q1 : w.cell? ⟨p.block, p.off + 1, none⟩ = some v1) (q2 : w.cell? ⟨p.block, p.off + 2, none⟩ = some v2) (q3 : w.cell? ⟨p.block, p.off + 3, none⟩ = some v3)
    (q4 : w.cell? ⟨p.block, p.off + 4, none⟩ = some v4) (q5 : w.cell? ⟨p.block, p.off + 5, none⟩ = some v5) (q6 : w.cell? ⟨p.block, p.off + 6, none⟩ = some v6) :
    (∀ n : Wd w, n.w.cell? p = some v0) ∧ (∀ n : Wd w, n.w.cell? ⟨p.block, p.off + 1, none⟩ = some v1) ∧ (∀ n : Wd w, n.w.cell? ⟨p.block, p.off + 2, none⟩ = some v2) ∧ (∀ n : Wd w, n.w.cell? ⟨p.block, p.off + 3, none⟩ = some v3) ∧
     (∀ n : Wd w, n.w.cell? ⟨p.block, p.off + 3 + 1, none⟩ = some v4) ∧ (∀ n : Wd w, n.w.cell? ⟨p.block, p.off + 3 + 2, none⟩ = some v5) ∧ ∀ n : Wd w, n.w.cell? ⟨p.block, p.off + 3 + 3, none⟩ = some v6 :=
 ⟨Wd.cell q0, Wd.cell q1, Wd.cell q2, Wd.cell q3, Wd.cell q4, Wd.cell q5, Wd.cell q6⟩
theorem goes {w w' W : World} (h : Below w.heap.size w W) (hb : Below W.heap.size W w') : Below w.heap.size w w' := h.trans (hb.mono h.size)
section
variable {P : Program} {ops : Array Oper} {Q : Exit → Act → World → Prop} {md : Region.Mode} {S : World → Prop} {n : Nat}
def wpAnyX (P : Program) (md : Region.Mode) (ops : Array Oper) (Q : Exit → Act → World → Prop) (S : World → Prop) (n : Nat) : Nat → Array Bool → Act → World → Prop
 | 0, listed, a, w => Region.ready md ops listed = [] ∧ Q .normal a w
 | fuel + 1, listed, a, w => (Region.ready md ops listed = [] → Q .normal a w) ∧
   ∀ i ∈ Region.ready md ops listed, wpOp P ops Q i (fun a' w' => (i < n → S w') ∧ wpAnyX P md ops Q S n fuel (listed.setIfInBounds i true) a' w') a w
theorem wpAny_of_X : ∀ (fuel : Nat) (listed : Array Bool) (a : Act) (w : World), wpAnyX P md ops Q S n fuel listed a w → wpAny P md ops Q fuel listed a w
 | 0, _, _, _, h => h
 | fuel + 1, _, _, _, h => ⟨h.1, fun i hi => wpOp_mono (fun a' w' h' => wpAny_of_X fuel _ a' w' h'.2) (h.2 i hi)⟩
theorem wpAnyX_first {i : Nat} {oi : Oper} {v : Value} (hi : ops[i]? = some oi) (hsel : ∀ (j : Nat) (o : Oper) cs b, ops[j]? = some o → o.op ≠ .select cs b)
    (hQ : ∀ c a w, Q (.panic c) (a.put oi.dst v) w → Q (.panic c) a w) (hwait : ∀ j, n ≤ j → j < ops.size → Region.waitsFor md ops j i = true) :
    ∀ (fuel : Nat) (listed : Array Bool) (a : Act) (w : World),
     (∀ j oj, ops[j]? = some oj → j ≠ i → listed.getD j true = false → (∀ e ∈ oj.after, Region.binds md e = true → e.on ≠ i) → oi.apart ops oj = true) →
     i ∈ Region.ready md ops listed → YieldsIf P ops S oi v a → S w →
     wpAnyX P md ops Q S n fuel (listed.setIfInBounds i true) (a.put oi.dst v) w → wpAnyX P md ops Q S n (fuel + 1) listed a w := by
 intro fuel
 induction fuel with
 | zero =>
   intro listed a w _ hr hy hS H
   refine ⟨fun h => (by rw [h] at hr; cases hr), fun j hj => ?_⟩
   by_cases hji : j = i
   ·subst hji; exact hy.wpOp hi hS ⟨fun _ => hS, H⟩
   ·have := ready_mono hj hji
    rw [H.1] at this
    cases this
 | succ fuel ih =>
   intro listed a w hfree hr hy hS H
   refine ⟨fun h => (by rw [h] at hr; cases hr), fun j hj => ?_⟩
   by_cases hji : j = i
   ·subst hji; exact hy.wpOp hi hS ⟨fun _ => hS, H⟩
   ·have h1 := H.2 j (ready_mono hj hji)
    obtain ⟨hjun, oj, hoj, hall⟩ := mem_ready.1 hj
    have hnot : ∀ e ∈ oj.after, Region.binds md e = true → e.on ≠ i := fun e he hb heq => by
     have h1 := hall e he hb
     have h0 := (mem_ready.1 hr).1
     rw [heq] at h1
     rcases Nat.lt_or_ge i listed.size with h' | h'
     ·simp [h'] at h0 h1; rw [h0] at h1; cases h1
     ·simp [Array.getElem?_eq_none h'] at h1
    have hjn : j < n := by
     rcases Nat.lt_or_ge j n with h' | h'
     ·exact h'
     ·obtain ⟨oj', hoj', e, he, hb, hon⟩ := Region.waitsFor_spec (hwait j h' (Array.getElem?_eq_some_iff.1 hoj).1)
      rw [hoj] at hoj'
      injection hoj' with hoj'
      subst hoj'
      exact absurd hon (hnot e he hb)
    have h2 := wpOp_putIf hoj (hfree j oj hoj hji hjun hnot) (fun cs b => hsel i oi cs b hi) (fun cs b => hsel j oj cs b hoj) hQ hy h1
    have hfree' : ∀ k ok, ops[k]? = some ok → k ≠ i → (listed.setIfInBounds j true).getD k true = false →
        (∀ e ∈ ok.after, Region.binds md e = true → e.on ≠ i) → oi.apart ops ok = true := fun k ok hk hki hun hno => by
     refine hfree k ok hk hki ?_ hno
     by_cases hjk : j = k
     ·subst hjk; exact hjun
     ·rw [getD_set_ne true hjk] at hun; exact hun
    refine wpOp_mono (fun a' w' h3 => ⟨h3.2.1, ih (listed.setIfInBounds j true) a' w' hfree' (ready_mono hr (Ne.symm hji)) h3.1 (h3.2.1 hjn) ?_⟩) h2
    rw [Array.setIfInBounds_comm _ _ hji]
    exact h3.2.2
def wpHead (P : Program) (ops : Array Oper) (S : World → Prop) (K : Act → Prop) : List Oper → Act → Prop
 | [], a => K a
 | o :: rest, a => ∃ v, YieldsIf P ops S o v a ∧ wpHead P ops S K rest (a.put o.dst v)
theorem wpHead_nil {K : Act → Prop} {a : Act} (h : K a) : wpHead P ops S K [] a := h
def wpTail (P : Program) (ops : Array Oper) (Q : Exit → Act → World → Prop) (S : World → Prop) (n : Nat) : Nat → List Oper → Act → World → Prop
 | _, [], a, w => Q .normal a w
 | k, o :: rest, a, w => if Region.wanted o (yielded ops a.tmps) = true then o.wp P a w (fun a' w' => (k < n → S w') ∧ wpTail P ops Q S n (k + 1) rest a' w') Q else (k < n → S w) ∧ wpTail P ops Q S n (k + 1) rest (a.put o.dst undef) w
theorem wpTail_nil {k : Nat} {a : Act} {w : World} (h : Q .normal a w) : wpTail P ops Q S n k [] a w := h
theorem wpTail_step {k : Nat} {o : Oper} {rest : List Oper} {a : Act} {w : World}
    (h : ∀ K : Act → World → Prop, (∀ a' w', (k < n → S w') → wpTail P ops Q S n (k + 1) rest a' w' → K a' w') → if Region.wanted o (yielded ops a.tmps) = true then o.wp P a w K Q else K (a.put o.dst undef) w) : wpTail P ops Q S n k (o :: rest) a w :=
 h _ fun _ _ h1 h2 => ⟨h1, h2⟩
theorem wpAnyX_seq : ∀ (l : List Oper) (k : Nat) (listed : Array Bool) (a : Act) (w : World), (∀ j, l[j]? = ops[k + j]?) → Region.seqB md ops l.length k listed = true → wpTail P ops Q S n k l a w → wpAnyX P md ops Q S n l.length listed a w
 | [], _, _, _, _, _, hB, h => ⟨by simpa [Region.seqB] using hB, h⟩
 | o :: l, k, listed, a, w, hl, hB, h => by
   have h0 : ops[k]? = some o := by simpa using (hl 0).symm
   simp only [List.length_cons, Region.seqB, Bool.and_eq_true, decide_eq_true_eq] at hB
   refine ⟨fun h1 => (by rw [hB.1] at h1; cases h1), fun i hi => ?_⟩
   rw [hB.1] at hi
   have hik : i = k := by simpa using hi
   subst hik
   have hw : wpOp P ops Q i (fun a' w' => (i < n → S w') ∧ wpTail P ops Q S n (i + 1) l a' w') a w := by
    have h' : (if Region.wanted o (yielded ops a.tmps) = true then o.wp P a w (fun a' w' => (i < n → S w') ∧ wpTail P ops Q S n (i + 1) l a' w') Q else (i < n → S w) ∧ wpTail P ops Q S n (i + 1) l (a.put o.dst undef) w) := h
    unfold wpOp
    simp only [h0]
    split
    ·rename_i hw; rw [if_pos hw] at h'; exact .inl h'
    ·rename_i hw; rw [if_neg hw] at h'; exact h'
   exact wpOp_mono (fun a' w' h' => ⟨h'.1, wpAnyX_seq l (i + 1) _ a' w' (fun j => by have := hl (j + 1); simpa [Nat.add_assoc, Nat.add_comm 1 j] using this) hB.2 h'.2⟩) hw
theorem wpAnyX_head {tail : List Oper} (hs : Region.noSelect ops = true) (hQ : ∀ c a d v w, Q (.panic c) (a.put d v) w → Q (.panic c) a w) (m : Nat) (hwait : ∀ i, i < m → ∀ j, n ≤ j → j < ops.size → Region.waitsFor md ops j i = true) (htl : ∀ j, tail[j]? = ops[m + j]?) :
    ∀ (l : List Oper) (k : Nat) (listed : Array Bool) (a : Act) (w : World), k + l.length = m → (∀ j, j < l.length → l[j]? = ops[k + j]?) → S w → Region.lexHead md ops tail.length l.length k listed = true →
     wpHead P ops S (fun a' => wpTail P ops Q S n m tail a' w) l a → wpAnyX P md ops Q S n (tail.length + l.length) listed a w
 | [], k, listed, a, w, hk, _, _, hB, h => by
   have : k = m := by simpa using hk
   subst this
   exact wpAnyX_seq tail k listed a w htl (by simpa [Region.lexHead] using hB) h
 | o :: l, k, listed, a, w, hk, hl, hS, hB, h => by
   have h0 : ops[k]? = some o := by simpa using (hl 0 (by simp)).symm
   simp only [List.length_cons, Region.lexHead, Bool.and_eq_true] at hB
   obtain ⟨⟨hr, hf⟩, hB'⟩ := hB
   obtain ⟨v, hy, hK⟩ := h
   have hkm : k < m := by simp only [List.length_cons] at hk; omega
   refine wpAnyX_first h0 (Region.noSelect_spec hs) (fun c a w h => hQ c a _ _ w h) (hwait k hkm) (tail.length + l.length) listed a w (Region.free_spec h0 hf) (by simpa using hr) hy hS ?_
   exact wpAnyX_head hs hQ m hwait htl l (k + 1) _ _ w (by simp only [List.length_cons] at hk; omega) (fun j hj => by have := hl (j + 1) (by simp; omega); simpa [Nat.add_assoc, Nat.add_comm 1 j] using this) hS hB' hK
def headB (ops : Array Oper) (m n : Nat) : Bool :=
 Region.noSelect ops && decide (m ≤ ops.size) && ((List.range m).all fun i => (List.range ops.size).all fun j => decide (j < n) || Region.waitsFor .any ops j i) && Region.lexHead .any ops (ops.size - m) m 0 (Array.replicate ops.size false)
theorem wp_region_head {id : Nat} {a : Act} {w : World} {l : List Oper} (m n : Nat) (S : World → Prop) (hm : P.follows .mixedOrders = true) (hB : headB l.toArray m n = true) (hQ : ∀ c a d v w, Q (.panic c) (a.put d v) w → Q (.panic c) a w) (hS : S w.drew)
    (h : wpHead P l.toArray S (fun a' => wpTail P l.toArray Q S n m (l.drop m) a' w.drew) (l.take m) a) : (Code.region id l.toArray true).wp P Q a w := by
 unfold headB at hB
 simp only [Bool.and_eq_true, decide_eq_true_eq] at hB
 obtain ⟨⟨⟨hsel, hms⟩, hwt⟩, hlex⟩ := hB
 have hms' : m ≤ l.length := by simpa using hms
 have htk : (l.take m).length = m := by rw [List.length_take]; omega
 have hdr : (l.drop m).length = l.toArray.size - m := by simp
 refine wp_region_any hm (wpAny_of_X (S := S) (n := n) _ _ _ _ ?_)
 have hwait : ∀ i, i < m → ∀ j, n ≤ j → j < l.toArray.size → Region.waitsFor .any l.toArray j i = true := fun i hi j hj hjs => by
  have h1 := List.all_eq_true.1 (List.all_eq_true.1 hwt i (List.mem_range.2 hi)) j (List.mem_range.2 hjs)
  simp only [Bool.or_eq_true, decide_eq_true_eq] at h1
  exact h1.resolve_left (by omega)
 have := wpAnyX_head (P := P) (Q := Q) (md := .any) (S := S) (n := n) (tail := l.drop m) hsel hQ m hwait (fun j => by simp [List.getElem?_drop]) (l.take m) 0 (Array.replicate l.toArray.size false) a w.drew (by rw [htk, Nat.zero_add])
  (fun j hj => by rw [htk] at hj; simp [hj]) hS (by rw [hdr, htk]; exact hlex) h
 rw [hdr, htk, show l.toArray.size - m + m = l.toArray.size by omega] at this
 exact this
end
section
variable {P : Program} {ops : Array Oper} {Q : Exit → Act → World → Prop} {md : Region.Mode} {n : Nat}
theorem wpAnyX_true : ∀ (fuel : Nat) (listed : Array Bool) (a : Act) (w : World), wpAny P md ops Q fuel listed a w → wpAnyX P md ops Q (fun _ => True) n fuel listed a w
 | 0, _, _, _, h => h
 | fuel + 1, _, _, _, h => ⟨h.1, fun i hi => wpOp_mono (fun a' w' h' => ⟨fun _ => trivial, wpAnyX_true fuel _ a' w' h'⟩) (h.2 i hi)⟩
def midB (ops : Array Oper) : Bool :=
 let l0 := Array.replicate ops.size false
 let l1 := l0.setIfInBounds 0 true
 let l2 := l1.setIfInBounds 2 true
 let l3 := l2.setIfInBounds 1 true
 Region.noSelect ops && decide (3 ≤ ops.size) && Region.free .any ops l0 0 && (Region.ready .any ops l0).contains 0 && Region.free .any ops l1 2 && (Region.ready .any ops l1).contains 2 && decide (Region.ready .any ops l2 = [1]) && Region.lexFrom .any ops (ops.size - 3) 3 l3
theorem wp_region_mid {id : Nat} {a : Act} {w : World} {o0 o1 o2 : Oper} {l : List Oper} (hm : P.follows .mixedOrders = true) (hB : midB (o0 :: o1 :: o2 :: l).toArray = true) (hQ : ∀ c a d v w, Q (.panic c) (a.put d v) w → Q (.panic c) a w) (v0 v2 : Value) (hg : o1.guard = none)
    (h0 : YieldsIf P (o0 :: o1 :: o2 :: l).toArray (fun _ => True) o0 v0 a) (h2 : YieldsIf P (o0 :: o1 :: o2 :: l).toArray (fun _ => True) o2 v2 (a.put o0.dst v0))
    (h1 : ∀ K : Act → World → Prop, (∀ a' w', (∃ C : World → Prop, C w' ∧ wpQuiet P (o0 :: o1 :: o2 :: l).toArray C (fun a'' => ∀ w'', C w'' → Q .normal a'' w'') l a') → K a' w') → o1.wp P ((a.put o0.dst v0).put o2.dst v2) w.drew K Q) :
    (Code.region id (o0 :: o1 :: o2 :: l).toArray true).wp P Q a w := by
 unfold midB at hB
 simp only [Bool.and_eq_true, decide_eq_true_eq, List.contains_iff_mem] at hB
 obtain ⟨⟨⟨⟨⟨⟨⟨hsel, hsz⟩, f0⟩, r0⟩, f2⟩, r2⟩, r1⟩, hlex⟩ := hB
 have hsize : (o0 :: o1 :: o2 :: l).toArray.size = l.length + 3 := by simp
 refine wp_region_any hm (wpAny_of_X (S := fun _ => True) (n := (o0 :: o1 :: o2 :: l).toArray.size) _ _ _ _ ?_)
 have e0 : (o0 :: o1 :: o2 :: l).toArray[0]? = some o0 := by simp
 have e1 : (o0 :: o1 :: o2 :: l).toArray[1]? = some o1 := by simp
 have e2 : (o0 :: o1 :: o2 :: l).toArray[2]? = some o2 := by simp
 refine (show wpAnyX P _ _ _ _ _ (l.length + 3) _ _ _ from ?_)
 refine wpAnyX_first e0 (Region.noSelect_spec hsel) (fun c a w h => hQ c a _ _ w h) (fun j hj hj2 => absurd hj2 (Nat.not_lt.2 hj)) (l.length + 2) _ a w.drew (Region.free_spec e0 f0) r0 h0 trivial ?_
 refine wpAnyX_first e2 (Region.noSelect_spec hsel) (fun c a w h => hQ c a _ _ w h) (fun j hj hj2 => absurd hj2 (Nat.not_lt.2 hj)) (l.length + 1) _ _ _ (Region.free_spec e2 f2) r2 h2 trivial ?_
 refine wpAnyX_true _ _ _ _ ⟨fun h => (by rw [r1] at h; cases h), fun i hi => ?_⟩
 rw [r1, List.mem_singleton] at hi
 subst hi
 unfold wpOp
 simp only [e1, Region.wanted, hg, if_true]
 refine .inl (h1 _ fun a' w' hC => ?_)
 obtain ⟨C, hw, hq⟩ := hC
 refine wpAny_of_quiet (C := C) (Q := fun a'' => ∀ w'', C w'' → Q .normal a'' w'') (fun a'' w'' hw'' h => h w'' hw'') _ _ _ _ hw ?_
 exact wpAnyQ_lex hsel l 3 _ _ (fun j => by simp [Nat.add_comm 3 j]) (by simpa using hlex) hq
end
section
variable {P : Program} {ops : Array Oper} {Q : Exit → Act → World → Prop} {S : World → Prop} {n : Nat}
theorem wpAnyX_late {md : Region.Mode} : ∀ (fuel : Nat) (listed : Array Bool) (a : Act) (w : World), (∀ i, i < n → listed.getD i true = true) → wpAny P md ops Q fuel listed a w → wpAnyX P md ops Q S n fuel listed a w
 | 0, _, _, _, _, h => h
 | fuel + 1, listed, a, w, hl, h => ⟨h.1, fun i hi => wpOp_mono (fun a' w' h' => ⟨fun hlt => (by
     have h1 := (mem_ready.1 hi).1
     rw [hl i hlt] at h1
     cases h1), wpAnyX_late fuel _ a' w' (fun j hj => (by
     by_cases e : i = j
     ·subst e
      simp only [Array.getD_eq_getD_getElem?, Array.getElem?_setIfInBounds_self]
      split <;> rfl
     ·rw [getD_set_ne true e]; exact hl j hj)) h'⟩) (h.2 i hi)⟩
def Clo (md : Region.Mode) (ops : Array Oper) (listed : Array Bool) : Prop := ∀ j oj, ops[j]? = some oj → listed.getD j false = true → ∀ e ∈ oj.after, Region.binds md e = true → listed.getD e.on false = true
theorem Clo.step {md : Region.Mode} {listed : Array Bool} (h : Clo md ops listed) {i : Nat} (hi : i ∈ Region.ready md ops listed) : Clo md ops (listed.setIfInBounds i true) := fun j oj hj hl e he hb => by
 refine getD_set_true ?_
 by_cases hij : i = j
 ·subst hij
  obtain ⟨_, o, ho, hall⟩ := mem_ready.1 hi
  rw [hj] at ho
  injection ho with ho
  subst ho
  exact hall e he hb
 ·rw [getD_set_ne false hij] at hl
  exact h j oj hj hl e he hb
theorem Clo.start (md : Region.Mode) (n : Nat) : Clo md ops (Array.replicate n false) := fun j oj _ hl => by
 simp only [Array.getD_eq_getD_getElem?, Array.getElem?_replicate] at hl
 split at hl <;> cases hl
def waitsT (md : Region.Mode) (ops : Array Oper) : Nat → Nat → Nat → Bool
 | 0, _, _ => false
 | f + 1, j, i => Region.waitsFor md ops j i || (List.range j).any fun d => Region.waitsFor md ops j d && waitsT md ops f d i
theorem Clo.waits {md : Region.Mode} {listed : Array Bool} (h : Clo md ops listed) {i : Nat} : ∀ (f j : Nat), listed.getD j false = true → waitsT md ops f j i = true → listed.getD i false = true
 | 0, _, _, hw => by cases hw
 | f + 1, j, hj, hw => by
   unfold waitsT at hw
   have dir : ∀ d, Region.waitsFor md ops j d = true → listed.getD d false = true := fun d hd => by
    obtain ⟨oj, hoj, e, he, hb, hon⟩ := Region.waitsFor_spec hd
    rw [← hon]; exact h j oj hoj hj e he hb
   rw [Bool.or_eq_true, List.any_eq_true] at hw
   rcases hw with hw | ⟨d, _, hw⟩
   ·exact dir i hw
   ·rw [Bool.and_eq_true] at hw
    exact h.waits f d (dir d hw.1) hw.2
def restB (md : Region.Mode) (ops : Array Oper) (f n i : Nat) : Bool := waitsT md ops f n i && (List.range ops.size).all fun j => decide (j ≤ n) || (List.range j).any fun d => decide (n ≤ d) && Region.waitsFor md ops j d
theorem Clo.rest {md : Region.Mode} {f n i : Nat} {listed : Array Bool} (h : Clo md ops listed) (hB : restB md ops f n i = true) {j : Nat} (hj : j ∈ Region.ready md ops listed) (hn : n ≤ j) : listed.getD i false = true := by
 unfold restB at hB
 rw [Bool.and_eq_true, List.all_eq_true] at hB
 obtain ⟨hw, hall⟩ := hB
 obtain ⟨_, oj, hoj, hr⟩ := mem_ready.1 hj
 have dir : ∀ d, Region.waitsFor md ops j d = true → listed.getD d false = true := fun d hd => by
  obtain ⟨oj', hoj', e, he, hb, hon⟩ := Region.waitsFor_spec hd
  rw [hoj] at hoj'
  injection hoj' with hoj'
  subst hoj'
  rw [← hon]; exact hr e he hb
 rcases Nat.lt_or_ge n j with hlt | hge
 ·have up : ∀ k, n ≤ k → k < ops.size → listed.getD k false = true → listed.getD n false = true := by
    intro k
    induction k using Nat.strongRecOn with
    | _ k ih =>
      intro hk hks hl
      rcases Nat.lt_or_ge n k with h1 | h1
      ·have h2 := hall k (List.mem_range.2 hks)
       rw [Bool.or_eq_true, List.any_eq_true] at h2
       rcases h2 with h2 | ⟨d, hd, h2⟩
       ·have := of_decide_eq_true h2; omega
       ·rw [Bool.and_eq_true] at h2
        obtain ⟨ok, hok, e, he, hb, hon⟩ := Region.waitsFor_spec h2.2
        have hdk := List.mem_range.1 hd
        exact ih d hdk (of_decide_eq_true h2.1) (by omega) (by rw [← hon]; exact h k ok hok hl e he hb)
      ·obtain rfl : k = n := by omega
       exact hl
  have hjs := (Array.getElem?_eq_some_iff.1 hoj).1
  have h2 := hall j (List.mem_range.2 (Array.getElem?_eq_some_iff.1 hoj).1)
  rw [Bool.or_eq_true, List.any_eq_true] at h2
  rcases h2 with h2 | ⟨d, hd, h2⟩
  ·have := of_decide_eq_true h2; omega
  ·rw [Bool.and_eq_true] at h2
   have hdj := List.mem_range.1 hd
   exact h.waits f n (up d (of_decide_eq_true h2.1) (by omega) (dir d h2.2)) hw
 ·obtain rfl : j = n := by omega
  cases f with
  | zero => cases hw
  | succ f =>
    unfold waitsT at hw
    rw [Bool.or_eq_true, List.any_eq_true] at hw
    rcases hw with hw | ⟨d, _, hw⟩
    ·exact dir i hw
    ·rw [Bool.and_eq_true] at hw
     exact h.waits f d (dir d hw.1) hw.2
theorem wpAnyC_first {md : Region.Mode} {f i : Nat} {oi : Oper} {v : Value} (hi : ops[i]? = some oi) (hsel : ∀ (j : Nat) (o : Oper) cs b, ops[j]? = some o → o.op ≠ .select cs b)
    (hQ : ∀ c a w, Q (.panic c) (a.put oi.dst v) w → Q (.panic c) a w) (hB : restB md ops f n i = true) :
    ∀ (fuel : Nat) (listed : Array Bool) (a : Act) (w : World), Clo md ops listed →
     (∀ j oj, ops[j]? = some oj → j ≠ i → listed.getD j true = false → (∀ e ∈ oj.after, Region.binds md e = true → e.on ≠ i) → oi.apart ops oj = true) →
     i ∈ Region.ready md ops listed → YieldsIf P ops S oi v a → S w →
     wpAnyX P md ops Q S n fuel (listed.setIfInBounds i true) (a.put oi.dst v) w → wpAnyX P md ops Q S n (fuel + 1) listed a w := by
 intro fuel
 induction fuel with
 | zero =>
   intro listed a w _ _ hr hy hS H
   refine ⟨fun h => (by rw [h] at hr; cases hr), fun j hj => ?_⟩
   by_cases hji : j = i
   ·subst hji; exact hy.wpOp hi hS ⟨fun _ => hS, H⟩
   ·have := ready_mono hj hji
    rw [H.1] at this
    cases this
 | succ fuel ih =>
   intro listed a w hC hfree hr hy hS H
   refine ⟨fun h => (by rw [h] at hr; cases hr), fun j hj => ?_⟩
   by_cases hji : j = i
   ·subst hji; exact hy.wpOp hi hS ⟨fun _ => hS, H⟩
   ·have h1 := H.2 j (ready_mono hj hji)
    obtain ⟨hjun, oj, hoj, hall⟩ := mem_ready.1 hj
    have hiun : ¬ listed.getD i false = true := fun hl => by
     have h0 := (mem_ready.1 hr).1
     rcases Nat.lt_or_ge i listed.size with h' | h'
     ·simp [h'] at h0 hl; rw [h0] at hl; cases hl
     ·simp [Array.getElem?_eq_none h'] at hl
    have hnot : ∀ e ∈ oj.after, Region.binds md e = true → e.on ≠ i := fun e he hb heq => by
     have h1 := hall e he hb
     rw [heq] at h1
     exact hiun h1
    have hjn : j < n := by
     rcases Nat.lt_or_ge j n with h' | h'
     ·exact h'
     ·exact absurd (hC.rest hB hj h') hiun
    have h2 := wpOp_putIf hoj (hfree j oj hoj hji hjun hnot) (fun cs b => hsel i oi cs b hi) (fun cs b => hsel j oj cs b hoj) hQ hy h1
    have hfree' : ∀ k ok, ops[k]? = some ok → k ≠ i → (listed.setIfInBounds j true).getD k true = false →
        (∀ e ∈ ok.after, Region.binds md e = true → e.on ≠ i) → oi.apart ops ok = true := fun k ok hk hki hun hno => by
     refine hfree k ok hk hki ?_ hno
     by_cases hjk : j = k
     ·subst hjk; exact hjun
     ·rw [getD_set_ne true hjk] at hun; exact hun
    refine wpOp_mono (fun a' w' h3 => ⟨h3.2.1, ih (listed.setIfInBounds j true) a' w' (hC.step hj) hfree' (ready_mono hr (Ne.symm hji)) h3.1 (h3.2.1 hjn) ?_⟩) h2
    rw [Array.setIfInBounds_comm _ _ hji]
    exact h3.2.2
def preL (ops : Array Oper) : Nat → Nat → Array Bool → Bool
 | 0, k, listed => decide (Region.ready .any ops listed = [k]) && Region.lexFrom .any ops (ops.size - (k + 1)) (k + 1) (listed.setIfInBounds k true) && (List.range (k + 1)).all fun i => (listed.setIfInBounds k true).getD i true
 | r + 1, k, listed => (Region.ready .any ops listed).contains k && Region.free .any ops listed k && preL ops r (k + 1) (listed.setIfInBounds k true)
theorem wpAnyX_pre (hs : Region.noSelect ops = true) (hQ : ∀ c a d v w, Q (.panic c) (a.put d v) w → Q (.panic c) a w) (m : Nat) (hm : m < ops.size) {o : Oper} (ho : ops[m]? = some o) {lo : Nat} (hwait : ∀ i, lo ≤ i → i < m → restB .any ops (m + 1) (m + 1) i = true)
    {tail : List Oper} (htl : ∀ j, tail[j]? = ops[m + 1 + j]?) (htn : tail.length = ops.size - (m + 1)) :
    ∀ (l : List Oper) (k : Nat) (listed : Array Bool) (a : Act) (w : World), lo ≤ k → k + l.length = m → (∀ j, j < l.length → l[j]? = ops[k + j]?) → Clo .any ops listed → S w → preL ops l.length k listed = true →
     wpHead P ops S (fun a' => Region.wanted o (yielded ops a'.tmps) = true ∧ ∀ K : Act → World → Prop, (∀ a'' w'', S w'' → (∃ C : World → Prop, C w'' ∧ wpQuiet P ops C (fun a3 => ∀ w3, C w3 → Q .normal a3 w3) tail a'') → K a'' w'') → o.wp P a' w K Q) l a → wpAnyX P .any ops Q S (m + 1) (tail.length + 1 + l.length) listed a w
 | [], k, listed, a, w, _, hk, _, _, _, hB, h => by
   have : k = m := by simpa using hk
   subst this
   simp only [List.length_nil, preL, Bool.and_eq_true, decide_eq_true_eq] at hB
   obtain ⟨⟨hr, hlex⟩, hall⟩ := hB
   refine ⟨fun h1 => (by rw [hr] at h1; cases h1), fun i hi => ?_⟩
   rw [hr, List.mem_singleton] at hi
   subst hi
   obtain ⟨hwn, h⟩ := (show _ ∧ _ from h)
   unfold wpOp
   simp only [ho, hwn, if_true]
   refine .inl (h _ fun a' w' hS hC => ⟨fun _ => hS, ?_⟩)
   obtain ⟨C, hw, hq⟩ := hC
   refine wpAnyX_late _ _ _ _ (fun j hj => List.all_eq_true.1 hall j (List.mem_range.2 hj)) ?_
   refine wpAny_of_quiet (C := C) (Q := fun a'' => ∀ w'', C w'' → Q .normal a'' w'') (fun a'' w'' hw'' h => h w'' hw'') _ _ _ _ hw ?_
   exact wpAnyQ_lex hs tail (i + 1) _ _ htl (by rw [htn]; exact hlex) hq
 | o1 :: l, k, listed, a, w, hlo, hk, hl, hC, hS, hB, h => by
   have h0 : ops[k]? = some o1 := by simpa using (hl 0 (by simp)).symm
   simp only [List.length_cons, preL, Bool.and_eq_true] at hB
   obtain ⟨⟨hr, hf⟩, hB'⟩ := hB
   obtain ⟨v, hy, hK⟩ := h
   have hkm : k < m := by simp only [List.length_cons] at hk; omega
   refine wpAnyC_first h0 (Region.noSelect_spec hs) (fun c a w h => hQ c a _ _ w h) (hwait k hlo hkm) (tail.length + 1 + l.length) listed a w hC (Region.free_spec h0 hf) (by simpa using hr) hy hS ?_
   exact wpAnyX_pre hs hQ m hm ho hwait htl htn l (k + 1) _ _ w (Nat.le_succ_of_le hlo) (by simp only [List.length_cons] at hk; omega) (fun j hj => by have := hl (j + 1) (by simp; omega); simpa [Nat.add_assoc, Nat.add_comm 1 j] using this) (hC.step (by simpa using hr)) hS hB' hK
end
section
variable {P : Program} {ops : Array Oper} {Q : Exit → Act → World → Prop} {S C : World → Prop} {n : Nat} {md : Region.Mode}
def wpAnyM (P : Program) (md : Region.Mode) (ops : Array Oper) (C : World → Prop) (n : Nat) (K : Array Bool → Act → Prop) : Nat → Array Bool → Act → Prop
 | 0, listed, a => (∀ i ∈ Region.ready md ops listed, n ≤ i) ∧ K listed a
 | m + 1, listed, a => Region.ready md ops listed ≠ [] ∧ ∀ i ∈ Region.ready md ops listed, i < n ∧ qOp P ops C i (wpAnyM P md ops C n K m (listed.setIfInBounds i true)) a
theorem wpAny_of_M {K : Array Bool → Act → Prop} {f : Nat} (hK : ∀ listed a w, C w → K listed a → wpAny P md ops Q f listed a w) : ∀ (m : Nat) (listed : Array Bool) (a : Act) (w : World), C w → wpAnyM P md ops C n K m listed a → wpAny P md ops Q (f + m) listed a w
 | 0, listed, a, w, hw, h => hK listed a w hw h.2
 | m + 1, listed, a, w, hw, h => ⟨fun h0 => absurd h0 h.1, fun i hi => wpOp_of_qOp hw (fun a' w' hw' h' => wpAny_of_M hK m _ a' w' hw' h') (h.2 i hi).2⟩
theorem wpAnyM_first {K : Array Bool → Act → Prop} {f i : Nat} {oi : Oper} {v : Value} (hi : ops[i]? = some oi) (hin : i < n) (hsel : ∀ (j : Nat) (o : Oper) cs b, ops[j]? = some o → o.op ≠ .select cs b) (hB : restB md ops f n i = true) :
    ∀ (m : Nat) (listed : Array Bool) (a : Act), Clo md ops listed →
     (∀ j oj, ops[j]? = some oj → j ≠ i → listed.getD j true = false → (∀ e ∈ oj.after, Region.binds md e = true → e.on ≠ i) → oi.apart ops oj = true) →
     i ∈ Region.ready md ops listed → YieldsIn P ops C oi v a →
     wpAnyM P md ops C n K m (listed.setIfInBounds i true) (a.put oi.dst v) → wpAnyM P md ops C n K (m + 1) listed a := by
 intro m
 induction m with
 | zero =>
   intro listed a hC hfree hr hy H
   refine ⟨fun h => (by rw [h] at hr; cases hr), fun j hj => ?_⟩
   have hiun : ¬ listed.getD i false = true := fun hl => by
    have h0 := (mem_ready.1 hr).1
    rcases Nat.lt_or_ge i listed.size with h' | h'
    ·simp [h'] at h0 hl; rw [h0] at hl; cases hl
    ·simp [Array.getElem?_eq_none h'] at hl
   have hjn : j < n := by
    rcases Nat.lt_or_ge j n with h' | h'
    ·exact h'
    ·exact absurd (hC.rest hB hj h') hiun
   refine ⟨hjn, ?_⟩
   by_cases hji : j = i
   ·subst hji; exact hy.qOp hi H
   ·have := H.1 j (ready_mono hj hji)
    omega
 | succ m ih =>
   intro listed a hC hfree hr hy H
   refine ⟨fun h => (by rw [h] at hr; cases hr), fun j hj => ?_⟩
   have hiun : ¬ listed.getD i false = true := fun hl => by
    have h0 := (mem_ready.1 hr).1
    rcases Nat.lt_or_ge i listed.size with h' | h'
    ·simp [h'] at h0 hl; rw [h0] at hl; cases hl
    ·simp [Array.getElem?_eq_none h'] at hl
   have hjn : j < n := by
    rcases Nat.lt_or_ge j n with h' | h'
    ·exact h'
    ·exact absurd (hC.rest hB hj h') hiun
   refine ⟨hjn, ?_⟩
   by_cases hji : j = i
   ·subst hji; exact hy.qOp hi H
   ·have h1 := (H.2 j (ready_mono hj hji)).2
    obtain ⟨hjun, oj, hoj, hall⟩ := mem_ready.1 hj
    have hnot : ∀ e ∈ oj.after, Region.binds md e = true → e.on ≠ i := fun e he hb heq => by
     have h1 := hall e he hb
     rw [heq] at h1
     exact hiun h1
    have h2 := qOp_put hoj (hfree j oj hoj hji hjun hnot) (fun cs b => hsel i oi cs b hi) (fun cs b => hsel j oj cs b hoj) hy h1
    have hfree' : ∀ k ok, ops[k]? = some ok → k ≠ i → (listed.setIfInBounds j true).getD k true = false →
        (∀ e ∈ ok.after, Region.binds md e = true → e.on ≠ i) → oi.apart ops ok = true := fun k ok hk hki hun hno => by
     refine hfree k ok hk hki ?_ hno
     by_cases hjk : j = k
     ·subst hjk; exact hjun
     ·rw [getD_set_ne true hjk] at hun; exact hun
    refine qOp_mono (fun a' h3 => ih (listed.setIfInBounds j true) a' (hC.step hj) hfree' (ready_mono hr (Ne.symm hji)) h3.1 ?_) h2
    rw [Array.setIfInBounds_comm _ _ hji]
    exact h3.2
def phL (ops : Array Oper) (n r2 : Nat) : Nat → Nat → Array Bool → Bool
 | 0, k, listed => ((Region.ready .any ops listed).all fun i => decide (n ≤ i)) && preL ops r2 k listed
 | r + 1, k, listed => (Region.ready .any ops listed).contains k && Region.free .any ops listed k && phL ops n r2 r (k + 1) (listed.setIfInBounds k true)
def phB (ops : Array Oper) (n m : Nat) : Bool :=
 Region.noSelect ops && decide (n ≤ m) && decide (m < ops.size) && ((List.range n).all fun i => restB .any ops (n + 1) n i) && ((List.range (m - n)).all fun i => restB .any ops (m + 1) (m + 1) (n + i)) && phL ops n (m - n) n 0 (Array.replicate ops.size false)
theorem wpAnyM_lex (hs : Region.noSelect ops = true) {r2 : Nat} (hB : ∀ i, i < n → restB .any ops (n + 1) n i = true) {L : Array Bool → Prop} {K : Act → Prop} (hL : ∀ listed, Clo .any ops listed → preL ops r2 n listed = true → L listed) : ∀ (l : List Oper) (k : Nat) (listed : Array Bool) (a : Act), k + l.length = n → (∀ j, j < l.length → l[j]? = ops[k + j]?) → Clo .any ops listed →
    phL ops n r2 l.length k listed = true → wpQuiet P ops C K l a → wpAnyM P .any ops C n (fun listed a => L listed ∧ K a) l.length listed a
 | [], k, listed, a, hk, _, hC, hp, h => by
   simp only [List.length_nil, phL, Bool.and_eq_true, List.all_eq_true, decide_eq_true_eq] at hp
   have : k = n := by simpa using hk
   subst this
   exact ⟨hp.1, hL listed hC hp.2, h⟩
 | o :: l, k, listed, a, hk, hl, hC, hp, h => by
   have h0 : ops[k]? = some o := by simpa using (hl 0 (by simp)).symm
   simp only [List.length_cons, phL, Bool.and_eq_true] at hp
   obtain ⟨⟨hr, hf⟩, hp'⟩ := hp
   have hkn : k < n := by simp only [List.length_cons] at hk; omega
   have hst : qOp P ops C k (wpQuiet P ops C K l) a := by unfold qOp; simp only [h0]; exact h
   obtain ⟨v, hy, hK⟩ := yieldsIn_of_qOp h0 hst
   have hr' : k ∈ Region.ready .any ops listed := by simpa using hr
   exact wpAnyM_first h0 hkn (Region.noSelect_spec hs) (hB k hkn) l.length listed a hC (Region.free_spec h0 hf) hr' hy
    (wpAnyM_lex hs hB hL l (k + 1) _ _ (by simp only [List.length_cons] at hk; omega) (fun j hj => by have := hl (j + 1) (by simp; omega); simpa [Nat.add_assoc, Nat.add_comm 1 j] using this) (hC.step hr') hp' hK)
theorem wp_region_ph {id : Nat} {a : Act} {w : World} {l : List Oper} (n m : Nat) (C S : World → Prop) (o : Oper) (hm : P.follows .mixedOrders = true) (ho : l[m]? = some o) (hB : phB l.toArray n m = true) (hQ : ∀ c a d v w, Q (.panic c) (a.put d v) w → Q (.panic c) a w) (hC : C w.drew) (hS : ∀ w, C w → S w)
    (h : wpQuiet P l.toArray C (fun a' => ∀ w', C w' → wpHead P l.toArray S (fun a'' => Region.wanted o (yielded l.toArray a''.tmps) = true ∧ ∀ K : Act → World → Prop, (∀ a3 w3, S w3 → (∃ C : World → Prop, C w3 ∧ wpQuiet P l.toArray C (fun a4 => ∀ w4, C w4 → Q .normal a4 w4) (l.drop (m + 1)) a3) → K a3 w3) → o.wp P a'' w' K Q) ((l.drop n).take (m - n)) a') (l.take n) a) : (Code.region id l.toArray true).wp P Q a w := by
 unfold phB at hB
 simp only [Bool.and_eq_true, decide_eq_true_eq, List.all_eq_true, List.mem_range] at hB
 obtain ⟨⟨⟨⟨⟨hsel, hnm⟩, hms⟩, h1⟩, h2⟩, hlex⟩ := hB
 have hms' : m < l.length := by simpa using hms
 have htk : (l.take n).length = n := by rw [List.length_take]; omega
 have htk2 : ((l.drop n).take (m - n)).length = m - n := by rw [List.length_take, List.length_drop]; omega
 have hdr : (l.drop (m + 1)).length = l.toArray.size - (m + 1) := by simp
 refine wp_region_any hm ?_
 have hM := wpAnyM_lex (P := P) (C := C) (ops := l.toArray) (n := n) hsel (r2 := m - n) (fun i hi => h1 i hi) (L := fun listed => Clo .any l.toArray listed ∧ preL l.toArray (m - n) n listed = true) (fun listed hc hp => ⟨hc, hp⟩) (l.take n) 0 (Array.replicate l.toArray.size false) a (by rw [htk, Nat.zero_add])
  (fun j hj => by rw [htk] at hj; simp [hj]) (Clo.start _ _) (by rw [htk]; exact hlex) h
 have := wpAny_of_M (Q := Q) (f := (l.drop (m + 1)).length + 1 + ((l.drop n).take (m - n)).length) (fun listed a w hw hk => wpAny_of_X (S := S) (n := m + 1) _ _ _ _
  (wpAnyX_pre (P := P) (Q := Q) (S := S) (ops := l.toArray) (tail := l.drop (m + 1)) hsel hQ m hms (o := o) (by simpa using ho) (lo := n) (fun i hi hi2 => by have := h2 (i - n) (by omega); rwa [show n + (i - n) = i by omega] at this) (fun j => by simp [List.getElem?_drop]) hdr ((l.drop n).take (m - n)) n listed a w (ae _) (by rw [htk2]; omega)
   (fun j hj => by rw [htk2] at hj; simp [List.getElem?_drop, hj]) hk.1.1 (hS w hw) (by rw [htk2]; exact hk.1.2) (hk.2 w hw))) (l.take n).length _ a w.drew hC hM
 rw [hdr, htk, htk2, show l.toArray.size - (m + 1) + 1 + (m - n) + n = l.toArray.size by simp; omega] at this
 exact this
end
end Go.Proofs.YtgjkgkgieeoalaaGreat
namespace Go.Proofs.YtgjkgkgieeoalaaGreat
open Go.RowKit Go.Shelf
def pairsU : Nat → List (Nat × Nat)
 | 0 => []
 | j + 1 => pairsU j ++ (List.range j).map fun i => (i, j)
theorem pairsU_pre (N : Nat) : ∀ j, j ≤ N → ∃ r, pairsU N = pairsU j ++ r := by
 induction N with
 | zero =>
   intro j h
   obtain rfl : j = 0 := by omega
   exact ⟨[], rfl⟩
 | succ N ih =>
   intro j h
   by_cases e : j = N + 1
   ·subst e; exact ⟨[], by simp⟩
   ·obtain ⟨r, hr⟩ := ih j (by omega)
    exact ⟨r ++ (List.range N).map fun i => (i, N), by show pairsU N ++ _ = _; rw [hr, List.append_assoc]⟩
theorem pairsU_at {N i j : Nat} (hj : j < N) (hi : i < j) : ∃ r, pairsU N = pairsU j ++ (List.range i).map (fun i => (i, j)) ++ (i, j) :: r := by
 obtain ⟨r, hr⟩ := pairsU_pre N (j + 1) hj
 obtain ⟨s, hs⟩ : ∃ s, List.range j = List.range i ++ i :: s := by
  refine ⟨(List.range j).drop (i + 1), ?_⟩
  have h := (List.take_append_drop i (List.range j)).symm
  rw [List.drop_eq_getElem_cons (by simpa using hi)] at h
  simpa [List.take_range, Nat.min_eq_left (Nat.le_of_lt hi)] using h
 refine ⟨s.map (fun i => (i, j)) ++ r, ?_⟩
 rw [hr]
 show pairsU j ++ (List.range j).map (fun i => (i, j)) ++ r = _
 rw [hs]
 simp
def encP (x : Nat × Nat) : Array Value := #[.agg #[.int .i64 x.1, .int .i64 x.2]]
attribute [local go_sem] Oper.semAt_some
theorem pairs1_in (F : Fence) (n : Nat) (h6 : F.fn 182) (hro : F.round = none) (hn : 1 ≤ n) (l Bn n₀ N : Nat) (hN : N ≤ 64) (J Jx : List (Nat × Nat) → World → Prop)
    (hY : ∀ pre x W, J pre W → pre.length < (pairsU N).length → YieldAt F (n - 1) Tryz.prog l (encP x) W fun e W' =>
     (e = .returned (.bool true) ∧ J (pre ++ [x]) W' ∧ Below n₀ W W') ∨ (e = .returned (.bool false) ∧ Jx (pre ++ [x]) W'))
    (W : World) (hBn : W.cell? ⟨Bn, 0, none⟩ = some (.int .i64 N)) (h0 : J [] W) :
    CallsIn F n Tryz.prog 182 #[.func (.yield l) #[] #[], .pointer (some ⟨Bn, 0, none⟩)] W fun e W' => (∃ v, e = .returned v) ∧
     ((∃ ys, ys = pairsU N ∧ J ys W') ∨ (∃ pre, pre <+: pairsU N ∧ Jx pre W')) := by
 refine callsIn_of_wp Tryz.func182 rfl h6 ?_ hro
 simp only [Tryz.ntmps182, List.size_toArray, List.length_cons, List.length_nil, Nat.reduceAdd, Nat.reduceSub, Array.replicate_succ, Array.replicate_zero, List.push_toArray, List.append_toArray, List.nil_append, List.cons_append]
 gi_wp2
 gi_loopw [6] (fun p wr => ∃ j : Nat, p = .int .i64 j ∧ j ≤ N ∧ J (pairsU j) wr) (fun p _ => N - (intOf p).toNat)
 case atStart =>
  exact ⟨0, rfl, by omega, h0⟩
 case round =>
  obtain ⟨j, rfl, hj, hJs⟩ := hrel
  by_cases hlt : j < N
  ·have i1 : (j : Int) < N := by omega
   gi_wp2
   gi_loopw [10] (fun p wr => ∃ i : Nat, p = .int .i64 i ∧ i ≤ j ∧ J (pairsU j ++ (List.range i).map fun i => (i, j)) wr) (fun p _ => j - (intOf p).toNat)
   case atStart => exact ⟨0, rfl, by omega, by simpa using hJs⟩
   case round =>
    obtain ⟨i, rfl, hi, hJi⟩ := hrel
    by_cases hij : i < j
    ·have i2 : (i : Int) < j := by omega
     obtain ⟨rest, hrest⟩ := pairsU_at hlt hij
     obtain ⟨fn, tmps, assign, body, hy, hR⟩ := hY (pairsU j ++ (List.range i).map fun i => (i, j)) (i, j) wr hJi (by rw [hrest]; simp)
     dsimp only [encP] at hy
     gi_wp2
     refine hR.mono ?_
     rintro e W3 (⟨rfl, hJ3, _⟩ | ⟨rfl, hJx3⟩)
     ·gi_wp2
      go_roundw
      case measure => first | (simp [intOf]; done) | (simp [intOf]; omega)
      case rel => exact ⟨i + 1, by go_num, by omega, by rw [List.range_succ, List.map_append]; simpa using hJ3⟩
     ·gi_wp2
      refine bodyPost_ret (results_none rfl _ _ _) rfl ?_
      exact ⟨⟨_, rfl⟩, .inr ⟨_, ⟨rest, by rw [hrest]; simp⟩, hJx3⟩⟩
    ·have i2 : ¬ (i : Int) < j := by omega
     obtain rfl : i = j := by omega
     gi_wp2
     go_roundw
     case measure => first | (simp [intOf]; done) | (simp [intOf]; omega)
     case rel => exact ⟨i + 1, by go_num, by omega, hJi⟩
  ·have i1 : ¬ (j : Int) < N := by omega
   obtain rfl : j = N := by omega
   gi_wp2
   go_end0
   exact ⟨⟨_, rfl⟩, .inl hJs⟩
theorem pairs_in (F : Fence) (n : Nat) (h5 : F.fn 103) (hro : F.round = none) (N : Int) (w : World) :
    CallsIn F n Tryz.prog 103 #[.int .i64 N] w fun e w' => e = .returned (.func (.func 182) #[] #[.pointer (some ⟨w.heap.size, 0, none⟩)]) ∧ w' = w.alloc (.cells #[.int .i64 N] 3) := by
 refine callsIn_of_wp Tryz.func103 rfl h5 ?_ hro
 simp only [Tryz.ntmps103, List.size_toArray, List.length_cons, List.length_nil, Nat.reduceAdd, Nat.reduceSub, Array.replicate_succ, Array.replicate_zero, List.push_toArray, List.append_toArray, List.nil_append, List.cons_append]
 gi_wp2
 go_ret
 exact ⟨rfl, rfl⟩
theorem pairs_stops (F : Fence) (n : Nat) (h6 : F.fn 182) (hro : F.round = none) (hn : 1 ≤ n) (Bn n₀ N : Nat) (hN : N ≤ 64) (w : World) (hBn : Bn < w.heap.size) (hn₀ : n₀ ≤ w.heap.size)
    (hc : w.cell? ⟨Bn, 0, none⟩ = some (.int .i64 N)) :
    SeqStopsK F n Tryz.prog 182 #[.pointer (some ⟨Bn, 0, none⟩)] encP (Below n₀) (fun ys => ys = pairsU N) (fun pre => pre <+: pairsU N) (pairsU N).length w := fun l J Jx W hW _ _ hY h0 =>
 pairs1_in F n h6 hro hn l Bn n₀ N hN J Jx hY W ((hW.cell (p := ⟨Bn, 0, none⟩) hBn).trans hc) h0
end Go.Proofs.YtgjkgkgieeoalaaGreat
