/- Parts of the proof, joined: each theorem says what it shows. -/
import Derived.Test.YtgjkgkgieeoalaaGreatC27
import Derived.Test.YtgjkgkgieeoalaaGreatC40
import Derived.Test.YtgjkgkgieeoalaaGreatC30
import Derived.Test.YtgjkgkgieeoalaaGreatC36
import Derived.Test.YtgjkgkgieeoalaaGreatC26
import Derived.Deep.QuietTactic
set_option linter.unusedVariables false
set_option linter.unusedSimpArgs false
set_option maxHeartbeats 24000000
set_option maxRecDepth 100000
namespace Go.Proofs.YtgjkgkgieeoalaaGreat
open Go.RowKit
section
variable {P : Program} {ops : Array Oper} {Q : Exit → Act → World → Prop} {S : World → Prop} {n : Nat}
theorem wpAnyX_late {md : Region.Mode} : ∀ (fuel : Nat) (listed : Array Bool) (a : Act) (w : World), (∀ i, i < n → listed.getD i true = true) → wpAny P md ops Q fuel listed a w → wpAnyX P md ops Q S n fuel listed a w
 | 0, _, _, _, _, h => h
 | fuel + 1, listed, a, w, hl, h => ⟨h.1, fun i hi => wpOp_mono (fun a' w' h' => ⟨fun hlt => (by
     have h1 := (mem_ready.1 hi).1
     rw [hl i hlt] at h1
     cases h1), wpAnyX_late fuel _ a' w' (fun j hj => (by
     by_cases e : i = j
     ·subst e
      simp only [Array.getD_eq_getD_getElem?, Array.getElem?_setIfInBounds_self]
      split <;> rfl
     ·rw [getD_set_ne true e]; exact hl j hj)) h'⟩) (h.2 i hi)⟩
def Clo (md : Region.Mode) (ops : Array Oper) (listed : Array Bool) : Prop := ∀ j oj, ops[j]? = some oj → listed.getD j false = true → ∀ e ∈ oj.after, Region.binds md e = true → listed.getD e.on false = true
theorem Clo.step {md : Region.Mode} {listed : Array Bool} (h : Clo md ops listed) {i : Nat} (hi : i ∈ Region.ready md ops listed) : Clo md ops (listed.setIfInBounds i true) := fun j oj hj hl e he hb => by
 refine getD_set_true ?_
 by_cases hij : i = j
 ·subst hij
  obtain ⟨_, o, ho, hall⟩ := mem_ready.1 hi
  rw [hj] at ho
  injection ho with ho
  subst ho
  exact hall e he hb
 ·rw [getD_set_ne false hij] at hl
  exact h j oj hj hl e he hb
theorem Clo.start (md : Region.Mode) (n : Nat) : Clo md ops (Array.replicate n false) := fun j oj _ hl => by
 simp only [Array.getD_eq_getD_getElem?, Array.getElem?_replicate] at hl
 split at hl <;> cases hl
def waitsT (md : Region.Mode) (ops : Array Oper) : Nat → Nat → Nat → Bool
 | 0, _, _ => false
 | f + 1, j, i => Region.waitsFor md ops j i || (List.range j).any fun d => Region.waitsFor md ops j d && waitsT md ops f d i
theorem Clo.waits {md : Region.Mode} {listed : Array Bool} (h : Clo md ops listed) {i : Nat} : ∀ (f j : Nat), listed.getD j false = true → waitsT md ops f j i = true → listed.getD i false = true
 | 0, _, _, hw => by cases hw
 | f + 1, j, hj, hw => by
   unfold waitsT at hw
   have dir : ∀ d, Region.waitsFor md ops j d = true → listed.getD d false = true := fun d hd => by
    obtain ⟨oj, hoj, e, he, hb, hon⟩ := Region.waitsFor_spec hd
    rw [← hon]; exact h j oj hoj hj e he hb
   rw [Bool.or_eq_true, List.any_eq_true] at hw
   rcases hw with hw | ⟨d, _, hw⟩
   ·exact dir i hw
   ·rw [Bool.and_eq_true] at hw
    exact h.waits f d (dir d hw.1) hw.2
def restB (md : Region.Mode) (ops : Array Oper) (f n i : Nat) : Bool := waitsT md ops f n i && (List.range ops.size).all fun j => decide (j ≤ n) || (List.range j).any fun d => decide (n ≤ d) && Region.waitsFor md ops j d
theorem Clo.rest {md : Region.Mode} {f n i : Nat} {listed : Array Bool} (h : Clo md ops listed) (hB : restB md ops f n i = true) {j : Nat} (hj : j ∈ Region.ready md ops listed) (hn : n ≤ j) : listed.getD i false = true := by
 unfold restB at hB
 rw [Bool.and_eq_true, List.all_eq_true] at hB
 obtain ⟨hw, hall⟩ := hB
 obtain ⟨_, oj, hoj, hr⟩ := mem_ready.1 hj
 have dir : ∀ d, Region.waitsFor md ops j d = true → listed.getD d false = true := fun d hd => by
  obtain ⟨oj', hoj', e, he, hb, hon⟩ := Region.waitsFor_spec hd
  rw [hoj] at hoj'
  injection hoj' with hoj'
  subst hoj'
  rw [← hon]; exact hr e he hb
 rcases Nat.lt_or_ge n j with hlt | hge
 ·have up : ∀ k, n ≤ k → k < ops.size → listed.getD k false = true → listed.getD n false = true := by
    intro k
    induction k using Nat.strongRecOn with
    | _ k ih =>
      intro hk hks hl
      rcases Nat.lt_or_ge n k with h1 | h1
      ·have h2 := hall k (List.mem_range.2 hks)
       rw [Bool.or_eq_true, List.any_eq_true] at h2
       rcases h2 with h2 | ⟨d, hd, h2⟩
       ·have := of_decide_eq_true h2; omega
       ·rw [Bool.and_eq_true] at h2
        obtain ⟨ok, hok, e, he, hb, hon⟩ := Region.waitsFor_spec h2.2
        have hdk := List.mem_range.1 hd
        exact ih d hdk (of_decide_eq_true h2.1) (by omega) (by rw [← hon]; exact h k ok hok hl e he hb)
      ·obtain rfl : k = n := by omega
       exact hl
  have hjs := (Array.getElem?_eq_some_iff.1 hoj).1
  have h2 := hall j (List.mem_range.2 (Array.getElem?_eq_some_iff.1 hoj).1)
  rw [Bool.or_eq_true, List.any_eq_true] at h2
  rcases h2 with h2 | ⟨d, hd, h2⟩
  ·have := of_decide_eq_true h2; omega
  ·rw [Bool.and_eq_true] at h2
   have hdj := List.mem_range.1 hd
   exact h.waits f n (up d (of_decide_eq_true h2.1) (by omega) (dir d h2.2)) hw
 ·obtain rfl : j = n := by omega
  cases f with
  | zero => cases hw
  | succ f =>
    unfold waitsT at hw
    rw [Bool.or_eq_true, List.any_eq_true] at hw
    rcases hw with hw | ⟨d, _, hw⟩
    ·exact dir i hw
    ·rw [Bool.and_eq_true] at hw
     exact h.waits f d (dir d hw.1) hw.2
theorem wpAnyC_first {md : Region.Mode} {f i : Nat} {oi : Oper} {v : Value} (hi : ops[i]? = some oi) (hsel : ∀ (j : Nat) (o : Oper) cs b, ops[j]? = some o → o.op ≠ .select cs b)
    (hQ : ∀ c a w, Q (.panic c) (a.put oi.dst v) w → Q (.panic c) a w) (hB : restB md ops f n i = true) :
    ∀ (fuel : Nat) (listed : Array Bool) (a : Act) (w : World), Clo md ops listed →
     (∀ j oj, ops[j]? = some oj → j ≠ i → listed.getD j true = false → (∀ e ∈ oj.after, Region.binds md e = true → e.on ≠ i) → oi.apart ops oj = true) →
     i ∈ Region.ready md ops listed → YieldsIf P ops S oi v a → S w →
     wpAnyX P md ops Q S n fuel (listed.setIfInBounds i true) (a.put oi.dst v) w → wpAnyX P md ops Q S n (fuel + 1) listed a w := by
 intro fuel
 induction fuel with
 | zero =>
   intro listed a w _ _ hr hy hS H
   refine ⟨fun h => (by rw [h] at hr; cases hr), fun j hj => ?_⟩
   by_cases hji : j = i
   ·subst hji; exact hy.wpOp hi hS ⟨fun _ => hS, H⟩
   ·have := ready_mono hj hji
    rw [H.1] at this
    cases this
 | succ fuel ih =>
   intro listed a w hC hfree hr hy hS H
   refine ⟨fun h => (by rw [h] at hr; cases hr), fun j hj => ?_⟩
   by_cases hji : j = i
   ·subst hji; exact hy.wpOp hi hS ⟨fun _ => hS, H⟩
   ·have h1 := H.2 j (ready_mono hj hji)
    obtain ⟨hjun, oj, hoj, hall⟩ := mem_ready.1 hj
    have hiun : ¬ listed.getD i false = true := fun hl => by
     have h0 := (mem_ready.1 hr).1
     rcases Nat.lt_or_ge i listed.size with h' | h'
     ·simp [h'] at h0 hl; rw [h0] at hl; cases hl
     ·simp [Array.getElem?_eq_none h'] at hl
    have hnot : ∀ e ∈ oj.after, Region.binds md e = true → e.on ≠ i := fun e he hb heq => by
     have h1 := hall e he hb
     rw [heq] at h1
     exact hiun h1
    have hjn : j < n := by
     rcases Nat.lt_or_ge j n with h' | h'
     ·exact h'
     ·exact absurd (hC.rest hB hj h') hiun
    have h2 := wpOp_putIf hoj (hfree j oj hoj hji hjun hnot) (fun cs b => hsel i oi cs b hi) (fun cs b => hsel j oj cs b hoj) hQ hy h1
    have hfree' : ∀ k ok, ops[k]? = some ok → k ≠ i → (listed.setIfInBounds j true).getD k true = false →
        (∀ e ∈ ok.after, Region.binds md e = true → e.on ≠ i) → oi.apart ops ok = true := fun k ok hk hki hun hno => by
     refine hfree k ok hk hki ?_ hno
     by_cases hjk : j = k
     ·subst hjk; exact hjun
     ·rw [getD_set_ne true hjk] at hun; exact hun
    refine wpOp_mono (fun a' w' h3 => ⟨h3.2.1, ih (listed.setIfInBounds j true) a' w' (hC.step hj) hfree' (ready_mono hr (Ne.symm hji)) h3.1 (h3.2.1 hjn) ?_⟩) h2
    rw [Array.setIfInBounds_comm _ _ hji]
    exact h3.2.2
def preL (ops : Array Oper) : Nat → Nat → Array Bool → Bool
 | 0, k, listed => decide (Region.ready .any ops listed = [k]) && Region.lexFrom .any ops (ops.size - (k + 1)) (k + 1) (listed.setIfInBounds k true) && (List.range (k + 1)).all fun i => (listed.setIfInBounds k true).getD i true
 | r + 1, k, listed => (Region.ready .any ops listed).contains k && Region.free .any ops listed k && preL ops r (k + 1) (listed.setIfInBounds k true)
theorem wpAnyX_pre (hs : Region.noSelect ops = true) (hQ : ∀ c a d v w, Q (.panic c) (a.put d v) w → Q (.panic c) a w) (m : Nat) (hm : m < ops.size) {o : Oper} (ho : ops[m]? = some o) {lo : Nat} (hwait : ∀ i, lo ≤ i → i < m → restB .any ops (m + 1) (m + 1) i = true)
    {tail : List Oper} (htl : ∀ j, tail[j]? = ops[m + 1 + j]?) (htn : tail.length = ops.size - (m + 1)) :
    ∀ (l : List Oper) (k : Nat) (listed : Array Bool) (a : Act) (w : World), lo ≤ k → k + l.length = m → (∀ j, j < l.length → l[j]? = ops[k + j]?) → Clo .any ops listed → S w → preL ops l.length k listed = true →
     wpHead P ops S (fun a' => Region.wanted o (yielded ops a'.tmps) = true ∧ ∀ K : Act → World → Prop, (∀ a'' w'', S w'' → (∃ C : World → Prop, C w'' ∧ wpQuiet P ops C (fun a3 => ∀ w3, C w3 → Q .normal a3 w3) tail a'') → K a'' w'') → o.wp P a' w K Q) l a → wpAnyX P .any ops Q S (m + 1) (tail.length + 1 + l.length) listed a w
 | [], k, listed, a, w, _, hk, _, _, _, hB, h => by
   have : k = m := by simpa using hk
   subst this
   simp only [List.length_nil, preL, Bool.and_eq_true, decide_eq_true_eq] at hB
   obtain ⟨⟨hr, hlex⟩, hall⟩ := hB
   refine ⟨fun h1 => (by rw [hr] at h1; cases h1), fun i hi => ?_⟩
   rw [hr, List.mem_singleton] at hi
   subst hi
   obtain ⟨hwn, h⟩ := (show _ ∧ _ from h)
   unfold wpOp
   simp only [ho, hwn, if_true]
   refine .inl (h _ fun a' w' hS hC => ⟨fun _ => hS, ?_⟩)
   obtain ⟨C, hw, hq⟩ := hC
   refine wpAnyX_late _ _ _ _ (fun j hj => List.all_eq_true.1 hall j (List.mem_range.2 hj)) ?_
   refine wpAny_of_quiet (C := C) (Q := fun a'' => ∀ w'', C w'' → Q .normal a'' w'') (fun a'' w'' hw'' h => h w'' hw'') _ _ _ _ hw ?_
   exact wpAnyQ_lex hs tail (i + 1) _ _ htl (by rw [htn]; exact hlex) hq
 | o1 :: l, k, listed, a, w, hlo, hk, hl, hC, hS, hB, h => by
   have h0 : ops[k]? = some o1 := by simpa using (hl 0 (by simp)).symm
   simp only [List.length_cons, preL, Bool.and_eq_true] at hB
   obtain ⟨⟨hr, hf⟩, hB'⟩ := hB
   obtain ⟨v, hy, hK⟩ := h
   have hkm : k < m := by simp only [List.length_cons] at hk; omega
   refine wpAnyC_first h0 (Region.noSelect_spec hs) (fun c a w h => hQ c a _ _ w h) (hwait k hlo hkm) (tail.length + 1 + l.length) listed a w hC (Region.free_spec h0 hf) (by simpa using hr) hy hS ?_
   exact wpAnyX_pre hs hQ m hm ho hwait htl htn l (k + 1) _ _ w (Nat.le_succ_of_le hlo) (by simp only [List.length_cons] at hk; omega) (fun j hj => by have := hl (j + 1) (by simp; omega); simpa [Nat.add_assoc, Nat.add_comm 1 j] using this) (hC.step (by simpa using hr)) hS hB' hK
end
section
variable {P : Program} {ops : Array Oper} {Q : Exit → Act → World → Prop} {S C : World → Prop} {n : Nat} {md : Region.Mode}
def wpAnyM (P : Program) (md : Region.Mode) (ops : Array Oper) (C : World → Prop) (n : Nat) (K : Array Bool → Act → Prop) : Nat → Array Bool → Act → Prop
 | 0, listed, a => (∀ i ∈ Region.ready md ops listed, n ≤ i) ∧ K listed a
 | m + 1, listed, a => Region.ready md ops listed ≠ [] ∧ ∀ i ∈ Region.ready md ops listed, i < n ∧ qOp P ops C i (wpAnyM P md ops C n K m (listed.setIfInBounds i true)) a
theorem wpAny_of_M {K : Array Bool → Act → Prop} {f : Nat} (hK : ∀ listed a w, C w → K listed a → wpAny P md ops Q f listed a w) : ∀ (m : Nat) (listed : Array Bool) (a : Act) (w : World), C w → wpAnyM P md ops C n K m listed a → wpAny P md ops Q (f + m) listed a w
 | 0, listed, a, w, hw, h => hK listed a w hw h.2
 | m + 1, listed, a, w, hw, h => ⟨fun h0 => absurd h0 h.1, fun i hi => wpOp_of_qOp hw (fun a' w' hw' h' => wpAny_of_M hK m _ a' w' hw' h') (h.2 i hi).2⟩
theorem wpAnyM_first {K : Array Bool → Act → Prop} {f i : Nat} {oi : Oper} {v : Value} (hi : ops[i]? = some oi) (hin : i < n) (hsel : ∀ (j : Nat) (o : Oper) cs b, ops[j]? = some o → o.op ≠ .select cs b) (hB : restB md ops f n i = true) :
    ∀ (m : Nat) (listed : Array Bool) (a : Act), Clo md ops listed →
     (∀ j oj, ops[j]? = some oj → j ≠ i → listed.getD j true = false → (∀ e ∈ oj.after, Region.binds md e = true → e.on ≠ i) → oi.apart ops oj = true) →
     i ∈ Region.ready md ops listed → YieldsIn P ops C oi v a →
     wpAnyM P md ops C n K m (listed.setIfInBounds i true) (a.put oi.dst v) → wpAnyM P md ops C n K (m + 1) listed a := by
 intro m
 induction m with
 | zero =>
   intro listed a hC hfree hr hy H
   refine ⟨fun h => (by rw [h] at hr; cases hr), fun j hj => ?_⟩
   have hiun : ¬ listed.getD i false = true := fun hl => by
    have h0 := (mem_ready.1 hr).1
    rcases Nat.lt_or_ge i listed.size with h' | h'
    ·simp [h'] at h0 hl; rw [h0] at hl; cases hl
    ·simp [Array.getElem?_eq_none h'] at hl
   have hjn : j < n := by
    rcases Nat.lt_or_ge j n with h' | h'
    ·exact h'
    ·exact absurd (hC.rest hB hj h') hiun
   refine ⟨hjn, ?_⟩
   by_cases hji : j = i
   ·subst hji; exact hy.qOp hi H
   ·have := H.1 j (ready_mono hj hji)
    omega
 | succ m ih =>
   intro listed a hC hfree hr hy H
   refine ⟨fun h => (by rw [h] at hr; cases hr), fun j hj => ?_⟩
   have hiun : ¬ listed.getD i false = true := fun hl => by
    have h0 := (mem_ready.1 hr).1
    rcases Nat.lt_or_ge i listed.size with h' | h'
    ·simp [h'] at h0 hl; rw [h0] at hl; cases hl
    ·simp [Array.getElem?_eq_none h'] at hl
   have hjn : j < n := by
    rcases Nat.lt_or_ge j n with h' | h'
    ·exact h'
    ·exact absurd (hC.rest hB hj h') hiun
   refine ⟨hjn, ?_⟩
   by_cases hji : j = i
   ·subst hji; exact hy.qOp hi H
   ·have h1 := (H.2 j (ready_mono hj hji)).2
    obtain ⟨hjun, oj, hoj, hall⟩ := mem_ready.1 hj
    have hnot : ∀ e ∈ oj.after, Region.binds md e = true → e.on ≠ i := fun e he hb heq => by
     have h1 := hall e he hb
     rw [heq] at h1
     exact hiun h1
    have h2 := qOp_put hoj (hfree j oj hoj hji hjun hnot) (fun cs b => hsel i oi cs b hi) (fun cs b => hsel j oj cs b hoj) hy h1
    have hfree' : ∀ k ok, ops[k]? = some ok → k ≠ i → (listed.setIfInBounds j true).getD k true = false →
        (∀ e ∈ ok.after, Region.binds md e = true → e.on ≠ i) → oi.apart ops ok = true := fun k ok hk hki hun hno => by
     refine hfree k ok hk hki ?_ hno
     by_cases hjk : j = k
     ·subst hjk; exact hjun
     ·rw [getD_set_ne true hjk] at hun; exact hun
    refine qOp_mono (fun a' h3 => ih (listed.setIfInBounds j true) a' (hC.step hj) hfree' (ready_mono hr (Ne.symm hji)) h3.1 ?_) h2
    rw [Array.setIfInBounds_comm _ _ hji]
    exact h3.2
def phL (ops : Array Oper) (n r2 : Nat) : Nat → Nat → Array Bool → Bool
 | 0, k, listed => ((Region.ready .any ops listed).all fun i => decide (n ≤ i)) && preL ops r2 k listed
 | r + 1, k, listed => (Region.ready .any ops listed).contains k && Region.free .any ops listed k && phL ops n r2 r (k + 1) (listed.setIfInBounds k true)
def phB (ops : Array Oper) (n m : Nat) : Bool :=
 Region.noSelect ops && decide (n ≤ m) && decide (m < ops.size) && ((List.range n).all fun i => restB .any ops (n + 1) n i) && ((List.range (m - n)).all fun i => restB .any ops (m + 1) (m + 1) (n + i)) && phL ops n (m - n) n 0 (Array.replicate ops.size false)
theorem wpAnyM_lex (hs : Region.noSelect ops = true) {r2 : Nat} (hB : ∀ i, i < n → restB .any ops (n + 1) n i = true) {L : Array Bool → Prop} {K : Act → Prop} (hL : ∀ listed, Clo .any ops listed → preL ops r2 n listed = true → L listed) : ∀ (l : List Oper) (k : Nat) (listed : Array Bool) (a : Act), k + l.length = n → (∀ j, j < l.length → l[j]? = ops[k + j]?) → Clo .any ops listed →
    phL ops n r2 l.length k listed = true → wpQuiet P ops C K l a → wpAnyM P .any ops C n (fun listed a => L listed ∧ K a) l.length listed a
 | [], k, listed, a, hk, _, hC, hp, h => by
   simp only [List.length_nil, phL, Bool.and_eq_true, List.all_eq_true, decide_eq_true_eq] at hp
   have : k = n := by simpa using hk
   subst this
   exact ⟨hp.1, hL listed hC hp.2, h⟩
 | o :: l, k, listed, a, hk, hl, hC, hp, h => by
   have h0 : ops[k]? = some o := by simpa using (hl 0 (by simp)).symm
   simp only [List.length_cons, phL, Bool.and_eq_true] at hp
   obtain ⟨⟨hr, hf⟩, hp'⟩ := hp
   have hkn : k < n := by simp only [List.length_cons] at hk; omega
   have hst : qOp P ops C k (wpQuiet P ops C K l) a := by unfold qOp; simp only [h0]; exact h
   obtain ⟨v, hy, hK⟩ := yieldsIn_of_qOp h0 hst
   have hr' : k ∈ Region.ready .any ops listed := by simpa using hr
   exact wpAnyM_first h0 hkn (Region.noSelect_spec hs) (hB k hkn) l.length listed a hC (Region.free_spec h0 hf) hr' hy
    (wpAnyM_lex hs hB hL l (k + 1) _ _ (by simp only [List.length_cons] at hk; omega) (fun j hj => by have := hl (j + 1) (by simp; omega); simpa [Nat.add_assoc, Nat.add_comm 1 j] using this) (hC.step hr') hp' hK)
theorem wp_region_ph {id : Nat} {a : Act} {w : World} {l : List Oper} (n m : Nat) (C S : World → Prop) (o : Oper) (hm : P.follows .mixedOrders = true) (ho : l[m]? = some o) (hB : phB l.toArray n m = true) (hQ : ∀ c a d v w, Q (.panic c) (a.put d v) w → Q (.panic c) a w) (hC : C w.drew) (hS : ∀ w, C w → S w)
    (h : wpQuiet P l.toArray C (fun a' => ∀ w', C w' → wpHead P l.toArray S (fun a'' => Region.wanted o (yielded l.toArray a''.tmps) = true ∧ ∀ K : Act → World → Prop, (∀ a3 w3, S w3 → (∃ C : World → Prop, C w3 ∧ wpQuiet P l.toArray C (fun a4 => ∀ w4, C w4 → Q .normal a4 w4) (l.drop (m + 1)) a3) → K a3 w3) → o.wp P a'' w' K Q) ((l.drop n).take (m - n)) a') (l.take n) a) : (Code.region id l.toArray true).wp P Q a w := by
 unfold phB at hB
 simp only [Bool.and_eq_true, decide_eq_true_eq, List.all_eq_true, List.mem_range] at hB
 obtain ⟨⟨⟨⟨⟨hsel, hnm⟩, hms⟩, h1⟩, h2⟩, hlex⟩ := hB
 have hms' : m < l.length := by simpa using hms
 have htk : (l.take n).length = n := by rw [List.length_take]; omega
 have htk2 : ((l.drop n).take (m - n)).length = m - n := by rw [List.length_take, List.length_drop]; omega
 have hdr : (l.drop (m + 1)).length = l.toArray.size - (m + 1) := by simp
 refine wp_region_any hm ?_
 have hM := wpAnyM_lex (P := P) (C := C) (ops := l.toArray) (n := n) hsel (r2 := m - n) (fun i hi => h1 i hi) (L := fun listed => Clo .any l.toArray listed ∧ preL l.toArray (m - n) n listed = true) (fun listed hc hp => ⟨hc, hp⟩) (l.take n) 0 (Array.replicate l.toArray.size false) a (by rw [htk, Nat.zero_add])
  (fun j hj => by rw [htk] at hj; simp [hj]) (Clo.start _ _) (by rw [htk]; exact hlex) h
 have := wpAny_of_M (Q := Q) (f := (l.drop (m + 1)).length + 1 + ((l.drop n).take (m - n)).length) (fun listed a w hw hk => wpAny_of_X (S := S) (n := m + 1) _ _ _ _
  (wpAnyX_pre (P := P) (Q := Q) (S := S) (ops := l.toArray) (tail := l.drop (m + 1)) hsel hQ m hms (o := o) (by simpa using ho) (lo := n) (fun i hi hi2 => by have := h2 (i - n) (by omega); rwa [show n + (i - n) = i by omega] at this) (fun j => by simp [List.getElem?_drop]) hdr ((l.drop n).take (m - n)) n listed a w (Nat.le_refl _) (by rw [htk2]; omega)
   (fun j hj => by rw [htk2] at hj; simp [List.getElem?_drop, hj]) hk.1.1 (hS w hw) (by rw [htk2]; exact hk.1.2) (hk.2 w hw))) (l.take n).length _ a w.drew hC hM
 rw [hdr, htk, htk2, show l.toArray.size - (m + 1) + 1 + (m - n) + n = l.toArray.size by simp; omega] at this
 exact this
end
structure LeadOk (o : Int) (l : List (List TermD)) (i : Nat) (p : List TermD) : Prop where
 ne : p ≠ []
 may : polMay o p = true
 same : sameR (hdT p).c (ofD 1) = true
 fall : ∀ j q, i = j + 1 → l[j]? = some q → 0 < monCmp o (hdM q) (hdM p)
 nd : ∀ k q, k ≠ i → l[k]? = some q → q ≠ [] → dvd q p = false
theorem leadAt_of {o : Int} {l : List (List TermD)} {i : Nat} {p : List TermD} (h : leadAt o l i = true) (hp : l[i]? = some p) : LeadOk o l i p := by
 unfold leadAt at h
 rw [show l.getD i [] = p by rw [List.getD_eq_getElem?_getD, hp]; rfl] at h
 simp only [Bool.and_eq_true, Bool.not_eq_true', decide_eq_false_iff_not, List.all_eq_true, List.mem_range] at h
 obtain ⟨⟨⟨⟨h1, h2⟩, h3⟩, h4⟩, h5⟩ := h
 refine ⟨fun e => h1 (by rw [e]; rfl), h2, h3, fun j q e hq => ?_, fun k q hk hq hne => ?_⟩
 ·subst e
  rw [show l.getD (j + 1 - 1) [] = q by rw [Nat.add_sub_cancel, List.getD_eq_getElem?_getD, hq]; rfl] at h4
  rw [Bool.and_eq_false_iff, decide_eq_false_iff_not, decide_eq_false_iff_not] at h4
  rcases h4 with h4 | h4
  ·omega
  ·omega
 ·have h6 := h5 k (List.getElem?_eq_some_iff.1 hq).1
  rw [show l.getD k [] = q by rw [List.getD_eq_getElem?_getD, hq]; rfl, decide_eq_false hk, decide_eq_false (fun e => hne (List.eq_nil_of_length_eq_zero e))] at h6
  simpa using h6
theorem RPol.hd7 {w : World} {b0 : Nat} {A : Option Addr} {p : List TermD} (h : RPol w b0 A p) (hp : p ≠ []) : ∃ (ad : Addr) (X1 : Option Addr) (x1 : Nat) (X2 : Option Addr) (x2 : Nat), A = some ad ∧
    Hd (RRat w b0 (.agg #[.bool (hdT p).c.neg, .slice X1 (hdT p).c.num.length x1, .slice X2 (hdT p).c.den.length x2]) (hdT p).c) ∧
    w.cell? ad = some (.bool (hdT p).c.neg) ∧ w.cell? ⟨ad.block, ad.off + 1, none⟩ = some (.slice X1 (hdT p).c.num.length x1) ∧ w.cell? ⟨ad.block, ad.off + 2, none⟩ = some (.slice X2 (hdT p).c.den.length x2) := by
 cases p with
 | nil => exact absurd rfl hp
 | cons t p =>
   obtain ⟨ad, X1, x1, X2, x2, t', rfl, hab, hti, hrt, q0, q1, q2, -, -, -, -⟩ := h.get (j := 0) (by simp)
   have e : t' = t := by have := hti.out; simpa using this.symm
   subst e
   rw [Nat.zero_mul, add_none] at q0 q1 q2
   exact ⟨ad, X1, x1, X2, x2, rfl, ⟨hrt.out.rat⟩, q0, q1, q2⟩
theorem ref14_Leads (b0 : Nat) (o : Int) (A : Option Addr) (c : Nat) (ls : List (List TermD)) (w : World) (hb0 : b0 ≤ w.heap.size) (h : RPols w b0 A ls) (hn : ls.length ≤ 1000) (hs : ∀ p ∈ ls, shortP p) (hl : leadsD o ls = true) :
    Calls Tryz.prog 40 #[.int .i64 o, .slice A ls.length c] w fun e w' => e = .returned (.bool true) ∧ Below w.heap.size w w' := by
 have HR := Hd.mk h
 have HS := Hd.mk hs
 have HL : Hd (∀ i p, ls[i]? = some p → LeadOk o ls i p) := ⟨fun i p hp => leadAt_of (List.all_eq_true.1 hl i (List.mem_range.2 (List.getElem?_eq_some_iff.1 hp).1)) hp⟩
 clear h hs hl
 go_enter Tryz.func40, Tryz.ntmps40
 go_wp2_with fail
 go_loopw [5] (fun v5 wr => ∃ i : Nat, v5 = .int .i64 i ∧ i ≤ ls.length ∧ Hd (Below w.heap.size w wr)) (fun v _ => ls.length - (intOf v).toNat)
 case atStart => exact ⟨0, rfl, by omega, ⟨.refl _ _⟩⟩
 case round =>
  obtain ⟨i, rfl, hi, HB⟩ := hrel
  by_cases hlt : i < ls.length
  case neg =>
   have i1 : ¬ (i : Int) < ls.length := by omega
   go_wp2_with fail
   go_ret
   exact ⟨rfl, HB.out⟩
  have i1 : (i : Int) < ls.length := by omega
  have i3 : (0 : Int) ≤ i := by omega
  obtain ⟨ad, a, pc, p, rfl, -, hp, c0, hpc, hr⟩ := (HR.out.up HB.out).get hlt
  have LO := Hd.mk (HL.out i p hp.out)
  have SP := Hd.mk (HS.out p (List.mem_of_getElem? hp.out))
  have CM := Hd.mk (fun n : Wd wr => rpol_May b0 o a pc p n.w (hr.out.up n.lo) hpc SP.out)
  rw [LO.out.may] at CM
  have CO := Hd.mk (fun n : Wd wr => rrat_Of b0 1 n.w (Nat.le_trans hb0 (goes HB.out n.lo).size) (by omega) (by omega))
  obtain ⟨pd, X1, x1, X2, x2, ea, hrat, z0, z1, z2⟩ := hr.out.hd7 LO.out.ne
  have CS := Hd.mk (fun (n : Wd wr) (x : Value) (hx : RRat n.w b0 x (ofD 1)) => rrat_Same b0 _ x (hdT p).c (ofD 1) n.w (hrat.out.up n.lo) hx (SP.out.2 _ (by have := LO.out.ne; cases p with | nil => exact absurd rfl this | cons t p => simp [hdT])) (ofD_short 1 (by decide)))
  rw [LO.out.same] at CS
  have e0 : ((p.length : Int) == 0) = false := by have := List.length_pos_iff.2 LO.out.ne; rw [beq_eq_false_iff_ne]; omega
  have e1 : (0 : Int) < p.length := by have := List.length_pos_iff.2 LO.out.ne; omega
  have PR := hr
  subst ea
  have c0 := Wd.cell c0
  have z0 := Wd.cell z0
  have z1 := Wd.cell z1
  have z2 := Wd.cell z2
  have e2 := List.length_pos_iff.2 LO.out.ne
  go_upto_region 4 with (fail)
  go_cut [63] (fun v63 wx => v63 = .bool false ∧ Hd (Below wr.heap.size wr wx))
  case first =>
   rcases Nat.eq_zero_or_pos i with h0 | h0
   ·have g0 : decide ((i : Int) > 0) = false := decide_eq_false (by omega)
    have g1 : decide (0 < i) = false := decide_eq_false (by omega)
    clear h0 hp hr hrat
    refine wp_region_ph 15 23 (fun W => ∃ n : Wd wr, W = n.w) (fun W => W.cell? (ad.add i) = some (.slice (some pd) p.length pc) ∧ W.cell? pd = some (.bool (hdT p).c.neg) ∧ W.cell? ⟨pd.block, pd.off + 1, none⟩ = some (.slice X1 (hdT p).c.num.length x1) ∧ W.cell? ⟨pd.block, pd.off + 2, none⟩ = some (.slice X2 (hdT p).c.den.length x2)) _ (by kernel_rfl) rfl (by kernel_rfl) (fun c a d v w h => by cases d <;> exact h) ⟨⟨wr.drew, (Below.refl _ _).drew⟩, rfl⟩ (by rintro _ ⟨n, rfl⟩; exact ⟨c0 n, z0 n, z1 n, z2 n⟩) ?_
    simp only [List.take_succ_cons, List.take_zero, List.drop_succ_cons, List.drop_zero, Nat.reduceSub]
    repeat (go_big_quiet_step ((go_at_call 25; exact Wd.call (CM.out _))))
    refine wpQuiet_nil ?_
    rintro W ⟨nn, rfl⟩
    iterate 8 (refine ⟨?_, Or.inl ⟨by rfl, ?_⟩, ?_⟩; rotate_left; (rintro W ⟨r0, r1, r2, r3⟩; go_simp; try with_reducible rfl); simp only [Act.put, List.setIfInBounds_toArray, List.set_cons_zero, List.set_cons_succ])
    refine wpHead_nil ⟨by rfl, ?_⟩
    intro K hK
    go_simp
    refine (CO.out nn).mono ?_
    rintro e w5 ⟨v, rfl, hv, hb⟩
    obtain ⟨m5, rfl⟩ : ∃ m5 : Wd wr, w5 = m5.w := ⟨⟨w5, goes nn.lo hb⟩, rfl⟩
    have CS5 := Hd.mk (fun (n : Wd m5.w) => CS.out ⟨n.w, goes m5.lo n.lo⟩ v (hv.up n.lo))
    have HV := Hd.mk hv
    obtain ⟨vA, vc, vB, vd, rfl, -, -, -, -⟩ := hv
    refine hK _ _ ⟨c0 m5, z0 m5, z1 m5, z2 m5⟩ ⟨fun W => ∃ n : Wd m5.w, W = n.w, ⟨⟨m5.w, .refl _ _⟩, rfl⟩, ?_⟩
    clear hK K hb
    repeat (go_big_quiet_step ((go_at_call 117; exact Wd.call (CS5.out _))))
    refine wd_nil fun nq => ?_
    go_wp2_with fail
    go_meet
    exact ⟨rfl, ⟨goes m5.lo nq.lo⟩⟩
   ·have g0 : decide ((i : Int) > 0) = true := decide_eq_true (by omega)
    have g1 : decide (0 < i) = true := decide_eq_true (by omega)
    obtain ⟨j, hj⟩ : ∃ j, i = j + 1 := ⟨i - 1, by omega⟩
    have hw : IntKind.i64.wrap ((i : Int) - 1) = (j : Int) := by rw [IntKind.wrap_i64]; omega
    have j1 : (j : Int) < ls.length := by omega
    have j3 : (0 : Int) ≤ j := by omega
    obtain ⟨ad', a', pc', q, e, -, hq, d0, -, hrq⟩ := (HR.out.up HB.out).get (j := j) (by omega)
    injection e with e
    subst e
    have LQ := HL.out j q hq.out
    obtain ⟨qd, rfl, -, y0, y1, y2, y3⟩ := hrq.out.head LQ.ne
    obtain ⟨pd', e, -, m0, m1, m2, m3⟩ := PR.out.head LO.out.ne
    injection e with e
    subst e
    have CQ := Hd.mk (fun W => rmon_Cmp o (hdM q) (hdM p) W)
    simp only [MonD.v] at CQ
    have hcmp := LO.out.fall j q hj hq.out
    have l1 : decide (monCmp o (hdM q) (hdM p) ≤ 0) = false := decide_eq_false (by omega)
    obtain ⟨R, hR⟩ : ∃ R, monCmp o (hdM q) (hdM p) = R := ⟨_, rfl⟩
    rw [hR] at CQ l1
    have f1 : (0 : Int) < q.length := by have := List.length_pos_iff.2 LQ.ne; omega
    have f2 := List.length_pos_iff.2 LQ.ne
    clear h0 hp hr hrat hR hcmp hrq hq LQ hj
    refine wp_region_ph 15 23 (fun W => ∃ n : Wd wr, W = n.w) (fun W => W.cell? (ad.add i) = some (.slice (some pd) p.length pc) ∧ W.cell? pd = some (.bool (hdT p).c.neg) ∧ W.cell? ⟨pd.block, pd.off + 1, none⟩ = some (.slice X1 (hdT p).c.num.length x1) ∧ W.cell? ⟨pd.block, pd.off + 2, none⟩ = some (.slice X2 (hdT p).c.den.length x2)) _ (by kernel_rfl) rfl (by kernel_rfl) (fun c a d v w h => by cases d <;> exact h) ⟨⟨wr.drew, (Below.refl _ _).drew⟩, rfl⟩ (by rintro _ ⟨n, rfl⟩; exact ⟨c0 n, z0 n, z1 n, z2 n⟩) ?_
    simp only [List.take_succ_cons, List.take_zero, List.drop_succ_cons, List.drop_zero, Nat.reduceSub]
    repeat (go_big_quiet_step ((go_at_call 25; exact Wd.call (CM.out _))))
    refine wpQuiet_nil ?_
    rintro W ⟨nn, rfl⟩
    iterate 8 (refine ⟨?_, Or.inl ⟨by rfl, ?_⟩, ?_⟩; rotate_left; (rintro W ⟨r0, r1, r2, r3⟩; go_simp; try with_reducible rfl); simp only [Act.put, List.setIfInBounds_toArray, List.set_cons_zero, List.set_cons_succ])
    refine wpHead_nil ⟨by rfl, ?_⟩
    intro K hK
    go_simp
    refine (CO.out nn).mono ?_
    rintro e w5 ⟨v, rfl, hv, hb⟩
    obtain ⟨m5, rfl⟩ : ∃ m5 : Wd wr, w5 = m5.w := ⟨⟨w5, goes nn.lo hb⟩, rfl⟩
    have CS5 := Hd.mk (fun (n : Wd m5.w) => CS.out ⟨n.w, goes m5.lo n.lo⟩ v (hv.up n.lo))
    have HV := Hd.mk hv
    obtain ⟨vA, vc, vB, vd, rfl, -, -, -, -⟩ := hv
    refine hK _ _ ⟨c0 m5, z0 m5, z1 m5, z2 m5⟩ ⟨fun W => ∃ n : Wd m5.w, W = n.w, ⟨⟨m5.w, .refl _ _⟩, rfl⟩, ?_⟩
    clear hK K hb
    have d0 := Wd.cell (cell_up d0 m5.lo)
    have c0 := Wd.cell (c0 m5)
    have y0 := Wd.cell (cell_up y0 m5.lo)
    have y1 := Wd.cell (cell_up y1 m5.lo)
    have y2 := Wd.cell (cell_up y2 m5.lo)
    have y3 := Wd.cell (cell_up y3 m5.lo)
    have m0 := Wd.cell (cell_up m0 m5.lo)
    have m1 := Wd.cell (cell_up m1 m5.lo)
    have m2 := Wd.cell (cell_up m2 m5.lo)
    have m3 := Wd.cell (cell_up m3 m5.lo)
    repeat (go_big_quiet_step ((first
     | (go_at_call 117; exact Wd.call (CS5.out _))
     | (go_at_call 86; exact Wd.call (CQ.out _)))))
    refine wd_nil fun nq => ?_
    go_wp2_with fail
    go_meet
    exact ⟨rfl, ⟨goes m5.lo nq.lo⟩⟩
  case rest =>
   obtain ⟨rfl, HX⟩ := hcut
   have HB2 := Hd.mk (goes HB.out HX.out)
   have PR2 := Hd.mk (PR.out.up HX.out)
   have c2 := cell_up (c0 ⟨wr, .refl _ _⟩) HX.out
   have HC2 : Hd (wc.cell? (ad.add i) = some (.slice (some pd) p.length pc)) := ⟨c2⟩
   clear c0 z0 z1 z2 c2 CM CO CS PR hp hr hrat HX
   go_wp2_with fail
   go_loopw [6] (fun v6 wk => ∃ k : Nat, v6 = .int .i64 k ∧ k ≤ ls.length ∧ Hd (Below wc.heap.size wc wk)) (fun v _ => ls.length - (intOf v).toNat)
   case atStart => exact ⟨0, rfl, by omega, ⟨.refl _ _⟩⟩
   case round =>
    obtain ⟨k, rfl, hk, HK⟩ := hrel
    by_cases hkl : k < ls.length
    case neg =>
     have k1 : ¬ (k : Int) < ls.length := by omega
     have HB3 := Hd.mk (goes HB2.out HK.out)
     clear HK
     go_wp2_with fail
     exact ⟨⟨i + 1, by go_num, by omega, HB3⟩, by simp [intOf]; omega⟩
    have k1 : (k : Int) < ls.length := by omega
    have k3 : (0 : Int) ≤ k := by omega
    obtain ⟨ad', a', qc, q, e, -, hq, d0, hqc, hrq⟩ := ((HR.out.up HB2.out).up HK.out).get hkl
    injection e with e
    subst e
    have LQ := HL.out k q hq.out
    have d0 := Wd.cell d0
    have c0 := Wd.cell (cell_up HC2.out HK.out)
    by_cases hki : k = i
    ·have e3 : ((k : Int) != (i : Int)) = false := by rw [bne_eq_false_iff_eq]; omega
     have e4 : (k != i) = false := by rw [bne_eq_false_iff_eq]; omega
     clear hki hq hrq
     go_upto_region 9 with (fail)
     refine wp_region_wd wr (by kernel_rfl) (by kernel_rfl) (Below.refl _ _).drew ?_
     repeat (go_big_quiet_step (fail))
     refine wd_nil fun nq => ?_
     have HB3 := Hd.mk (goes HK.out nq.lo)
     clear d0 c0 LQ
     go_wp2_with fail
     exact ⟨⟨k + 1, by go_num, by omega, HB3⟩, by simp [intOf]; omega⟩
    ·have e3 : ((k : Int) != (i : Int)) = true := by rw [bne_iff_ne]; omega
     have e4 : (k != i) = true := by rw [bne_iff_ne]; omega
     have CD := Hd.mk (fun n : Wd wr => ref14_divides (c := qc) (d := pc) (hrq.out.up n.lo) LQ.ne ((PR2.out.up HK.out).up n.lo) LO.out.ne)
     rw [LO.out.nd k q hki hq.out LQ.ne] at CD
     have f2 := List.length_pos_iff.2 LQ.ne
     have f1 : (0 : Int) < q.length := by omega
     have l1 : decide ((q.length : Int) > 0) = true := decide_eq_true (by omega)
     have l2 : decide (0 < q.length) = true := decide_eq_true (by omega)
     clear hki hq hrq
     go_upto_region 9 with (fail)
     refine wp_region_wd wr (by kernel_rfl) (by kernel_rfl) (Below.refl _ _).drew ?_
     repeat (go_big_quiet_step ((go_at_call 118; exact Wd.call (CD.out _))))
     refine wd_nil fun nq => ?_
     have HB3 := Hd.mk (goes HK.out nq.lo)
     clear d0 c0 LQ CD
     go_wp2_with fail
     exact ⟨⟨k + 1, by go_num, by omega, HB3⟩, by simp [intOf]; omega⟩
theorem oOk_mod3 {a : Int} (h : 0 ≤ a) : oOk (a % 3) := ⟨by omega, by omega⟩
theorem mem3 {α : Type} {p : α → Prop} {a b c : α} (ha : p a) (hb : p b) (hc : p c) : ∀ x ∈ [a, b, c], p x := fun x hx => by
 simp only [List.mem_cons, List.not_mem_nil, or_false] at hx
 rcases hx with rfl | rfl | rfl
 ·exact ha
 ·exact hb
 ·exact hc
end Go.Proofs.YtgjkgkgieeoalaaGreat
