/- Parts of the proof, joined: each theorem says what it shows. -/
import Derived.Test.YtgjkgkgieeoalaaGreatB26
import Derived.Test.YtgjkgkgieeoalaaGreatB35
import Derived.Test.YtgjkgkgieeoalaaGreatB34
import Derived.Test.YtgjkgkgieeoalaaGreatB28
import Derived.Deep.QuietTactic
set_option linter.unusedVariables false
set_option linter.unusedSimpArgs false
set_option maxHeartbeats 24000000
set_option maxRecDepth 100000
namespace Go.Proofs.YtgjkgkgieeoalaaGreat
open Go.RowKit
section
variable {P : Program} {ops : Array Oper} {Q : Exit → Act → World → Prop} {S : World → Prop} {n : Nat}
theorem wpAnyX_late {md : Region.Mode} : ∀ (fuel : Nat) (listed : Array Bool) (a : Act) (w : World), (∀ i, i < n → listed.getD i true = true) → wpAny P md ops Q fuel listed a w → wpAnyX P md ops Q S n fuel listed a w
 | 0, _, _, _, _, h => h
 | fuel + 1, listed, a, w, hl, h => ⟨h.1, fun i hi => wpOp_mono (fun a' w' h' => ⟨fun hlt => (by
     have h1 := (mem_ready.1 hi).1
     rw [hl i hlt] at h1
     cases h1), wpAnyX_late fuel _ a' w' (fun j hj => (by
     by_cases e : i = j
     ·subst e
      simp only [Array.getD_eq_getD_getElem?, Array.getElem?_setIfInBounds_self]
      split <;> rfl
     ·rw [getD_set_ne true e]; exact hl j hj)) h'⟩) (h.2 i hi)⟩
def Clo (md : Region.Mode) (ops : Array Oper) (listed : Array Bool) : Prop := ∀ j oj, ops[j]? = some oj → listed.getD j false = true → ∀ e ∈ oj.after, Region.binds md e = true → listed.getD e.on false = true
theorem Clo.step {md : Region.Mode} {listed : Array Bool} (h : Clo md ops listed) {i : Nat} (hi : i ∈ Region.ready md ops listed) : Clo md ops (listed.setIfInBounds i true) := fun j oj hj hl e he hb => by
 refine getD_set_true ?_
 by_cases hij : i = j
 ·subst hij
  obtain ⟨_, o, ho, hall⟩ := mem_ready.1 hi
  rw [hj] at ho
  injection ho with ho
  subst ho
  exact hall e he hb
 ·rw [getD_set_ne false hij] at hl
  exact h j oj hj hl e he hb
theorem Clo.start (md : Region.Mode) (n : Nat) : Clo md ops (Array.replicate n false) := fun j oj _ hl => by
 simp only [Array.getD_eq_getD_getElem?, Array.getElem?_replicate] at hl
 split at hl <;> cases hl
def waitsT (md : Region.Mode) (ops : Array Oper) : Nat → Nat → Nat → Bool
 | 0, _, _ => false
 | f + 1, j, i => Region.waitsFor md ops j i || (List.range j).any fun d => Region.waitsFor md ops j d && waitsT md ops f d i
theorem Clo.waits {md : Region.Mode} {listed : Array Bool} (h : Clo md ops listed) {i : Nat} : ∀ (f j : Nat), listed.getD j false = true → waitsT md ops f j i = true → listed.getD i false = true
 | 0, _, _, hw => by cases hw
 | f + 1, j, hj, hw => by
   unfold waitsT at hw
   have dir : ∀ d, Region.waitsFor md ops j d = true → listed.getD d false = true := fun d hd => by
    obtain ⟨oj, hoj, e, he, hb, hon⟩ := Region.waitsFor_spec hd
    rw [← hon]; exact h j oj hoj hj e he hb
   rw [Bool.or_eq_true, List.any_eq_true] at hw
   rcases hw with hw | ⟨d, _, hw⟩
   ·exact dir i hw
   ·rw [Bool.and_eq_true] at hw
    exact h.waits f d (dir d hw.1) hw.2
def restB (md : Region.Mode) (ops : Array Oper) (f n i : Nat) : Bool := waitsT md ops f n i && (List.range ops.size).all fun j => decide (j ≤ n) || (List.range j).any fun d => decide (n ≤ d) && Region.waitsFor md ops j d
theorem Clo.rest {md : Region.Mode} {f n i : Nat} {listed : Array Bool} (h : Clo md ops listed) (hB : restB md ops f n i = true) {j : Nat} (hj : j ∈ Region.ready md ops listed) (hn : n ≤ j) : listed.getD i false = true := by
 unfold restB at hB
 rw [Bool.and_eq_true, List.all_eq_true] at hB
 obtain ⟨hw, hall⟩ := hB
 obtain ⟨_, oj, hoj, hr⟩ := mem_ready.1 hj
 have dir : ∀ d, Region.waitsFor md ops j d = true → listed.getD d false = true := fun d hd => by
  obtain ⟨oj', hoj', e, he, hb, hon⟩ := Region.waitsFor_spec hd
  rw [hoj] at hoj'
  injection hoj' with hoj'
  subst hoj'
  rw [← hon]; exact hr e he hb
 rcases Nat.lt_or_ge n j with hlt | hge
 ·have up : ∀ k, n ≤ k → k < ops.size → listed.getD k false = true → listed.getD n false = true := by
    intro k
    induction k using Nat.strongRecOn with
    | _ k ih =>
      intro hk hks hl
      rcases Nat.lt_or_ge n k with h1 | h1
      ·have h2 := hall k (List.mem_range.2 hks)
       rw [Bool.or_eq_true, List.any_eq_true] at h2
       rcases h2 with h2 | ⟨d, hd, h2⟩
       ·have := of_decide_eq_true h2; omega
       ·rw [Bool.and_eq_true] at h2
        obtain ⟨ok, hok, e, he, hb, hon⟩ := Region.waitsFor_spec h2.2
        have hdk := List.mem_range.1 hd
        exact ih d hdk (of_decide_eq_true h2.1) (by omega) (by rw [← hon]; exact h k ok hok hl e he hb)
      ·obtain rfl : k = n := by omega
       exact hl
  have hjs := (Array.getElem?_eq_some_iff.1 hoj).1
  have h2 := hall j (List.mem_range.2 (Array.getElem?_eq_some_iff.1 hoj).1)
  rw [Bool.or_eq_true, List.any_eq_true] at h2
  rcases h2 with h2 | ⟨d, hd, h2⟩
  ·have := of_decide_eq_true h2; omega
  ·rw [Bool.and_eq_true] at h2
   have hdj := List.mem_range.1 hd
   exact h.waits f n (up d (of_decide_eq_true h2.1) (by omega) (dir d h2.2)) hw
 ·obtain rfl : j = n := by omega
  cases f with
  | zero => cases hw
  | succ f =>
    unfold waitsT at hw
    rw [Bool.or_eq_true, List.any_eq_true] at hw
    rcases hw with hw | ⟨d, _, hw⟩
    ·exact dir i hw
    ·rw [Bool.and_eq_true] at hw
     exact h.waits f d (dir d hw.1) hw.2
theorem wpAnyC_first {md : Region.Mode} {f i : Nat} {oi : Oper} {v : Value} (hi : ops[i]? = some oi) (hsel : ∀ (j : Nat) (o : Oper) cs b, ops[j]? = some o → o.op ≠ .select cs b)
    (hQ : ∀ c a w, Q (.panic c) (a.put oi.dst v) w → Q (.panic c) a w) (hB : restB md ops f n i = true) :
    ∀ (fuel : Nat) (listed : Array Bool) (a : Act) (w : World), Clo md ops listed →
     (∀ j oj, ops[j]? = some oj → j ≠ i → listed.getD j true = false → (∀ e ∈ oj.after, Region.binds md e = true → e.on ≠ i) → oi.apart ops oj = true) →
     i ∈ Region.ready md ops listed → YieldsIf P ops S oi v a → S w →
     wpAnyX P md ops Q S n fuel (listed.setIfInBounds i true) (a.put oi.dst v) w → wpAnyX P md ops Q S n (fuel + 1) listed a w := by
 intro fuel
 induction fuel with
 | zero =>
   intro listed a w _ _ hr hy hS H
   refine ⟨fun h => (by rw [h] at hr; cases hr), fun j hj => ?_⟩
   by_cases hji : j = i
   ·subst hji; exact hy.wpOp hi hS ⟨fun _ => hS, H⟩
   ·have := ready_mono hj hji
    rw [H.1] at this
    cases this
 | succ fuel ih =>
   intro listed a w hC hfree hr hy hS H
   refine ⟨fun h => (by rw [h] at hr; cases hr), fun j hj => ?_⟩
   by_cases hji : j = i
   ·subst hji; exact hy.wpOp hi hS ⟨fun _ => hS, H⟩
   ·have h1 := H.2 j (ready_mono hj hji)
    obtain ⟨hjun, oj, hoj, hall⟩ := mem_ready.1 hj
    have hiun : ¬ listed.getD i false = true := fun hl => by
     have h0 := (mem_ready.1 hr).1
     rcases Nat.lt_or_ge i listed.size with h' | h'
     ·simp [h'] at h0 hl; rw [h0] at hl; cases hl
     ·simp [Array.getElem?_eq_none h'] at hl
    have hnot : ∀ e ∈ oj.after, Region.binds md e = true → e.on ≠ i := fun e he hb heq => by
     have h1 := hall e he hb
     rw [heq] at h1
     exact hiun h1
    have hjn : j < n := by
     rcases Nat.lt_or_ge j n with h' | h'
     ·exact h'
     ·exact absurd (hC.rest hB hj h') hiun
    have h2 := wpOp_putIf hoj (hfree j oj hoj hji hjun hnot) (fun cs b => hsel i oi cs b hi) (fun cs b => hsel j oj cs b hoj) hQ hy h1
    have hfree' : ∀ k ok, ops[k]? = some ok → k ≠ i → (listed.setIfInBounds j true).getD k true = false →
        (∀ e ∈ ok.after, Region.binds md e = true → e.on ≠ i) → oi.apart ops ok = true := fun k ok hk hki hun hno => by
     refine hfree k ok hk hki ?_ hno
     by_cases hjk : j = k
     ·subst hjk; exact hjun
     ·rw [getD_set_ne true hjk] at hun; exact hun
    refine wpOp_mono (fun a' w' h3 => ⟨h3.2.1, ih (listed.setIfInBounds j true) a' w' (hC.step hj) hfree' (ready_mono hr (Ne.symm hji)) h3.1 (h3.2.1 hjn) ?_⟩) h2
    rw [Array.setIfInBounds_comm _ _ hji]
    exact h3.2.2
def preL (ops : Array Oper) : Nat → Nat → Array Bool → Bool
 | 0, k, listed => decide (Region.ready .any ops listed = [k]) && Region.lexFrom .any ops (ops.size - (k + 1)) (k + 1) (listed.setIfInBounds k true) && (List.range (k + 1)).all fun i => (listed.setIfInBounds k true).getD i true
 | r + 1, k, listed => (Region.ready .any ops listed).contains k && Region.free .any ops listed k && preL ops r (k + 1) (listed.setIfInBounds k true)
def preB (ops : Array Oper) (m : Nat) : Bool :=
 Region.noSelect ops && decide (m < ops.size) && ((List.range m).all fun i => restB .any ops (m + 1) (m + 1) i) && preL ops m 0 (Array.replicate ops.size false)
theorem wpAnyX_pre (hs : Region.noSelect ops = true) (hQ : ∀ c a d v w, Q (.panic c) (a.put d v) w → Q (.panic c) a w) (m : Nat) (hm : m < ops.size) {o : Oper} (ho : ops[m]? = some o) (hg : o.guard = none) (hwait : ∀ i, i < m → restB .any ops (m + 1) (m + 1) i = true)
    {tail : List Oper} (htl : ∀ j, tail[j]? = ops[m + 1 + j]?) (htn : tail.length = ops.size - (m + 1)) :
    ∀ (l : List Oper) (k : Nat) (listed : Array Bool) (a : Act) (w : World), k + l.length = m → (∀ j, j < l.length → l[j]? = ops[k + j]?) → Clo .any ops listed → S w → preL ops l.length k listed = true →
     wpHead P ops S (fun a' => ∀ K : Act → World → Prop, (∀ a'' w'', S w'' → (∃ C : World → Prop, C w'' ∧ wpQuiet P ops C (fun a3 => ∀ w3, C w3 → Q .normal a3 w3) tail a'') → K a'' w'') → o.wp P a' w K Q) l a → wpAnyX P .any ops Q S (m + 1) (tail.length + 1 + l.length) listed a w
 | [], k, listed, a, w, hk, _, _, _, hB, h => by
   have : k = m := by simpa using hk
   subst this
   simp only [List.length_nil, preL, Bool.and_eq_true, decide_eq_true_eq] at hB
   obtain ⟨⟨hr, hlex⟩, hall⟩ := hB
   refine ⟨fun h1 => (by rw [hr] at h1; cases h1), fun i hi => ?_⟩
   rw [hr, List.mem_singleton] at hi
   subst hi
   unfold wpOp
   simp only [ho, Region.wanted, hg, if_true]
   refine .inl (h _ fun a' w' hS hC => ⟨fun _ => hS, ?_⟩)
   obtain ⟨C, hw, hq⟩ := hC
   refine wpAnyX_late _ _ _ _ (fun j hj => List.all_eq_true.1 hall j (List.mem_range.2 hj)) ?_
   refine wpAny_of_quiet (C := C) (Q := fun a'' => ∀ w'', C w'' → Q .normal a'' w'') (fun a'' w'' hw'' h => h w'' hw'') _ _ _ _ hw ?_
   exact wpAnyQ_lex hs tail (i + 1) _ _ htl (by rw [htn]; exact hlex) hq
 | o1 :: l, k, listed, a, w, hk, hl, hC, hS, hB, h => by
   have h0 : ops[k]? = some o1 := by simpa using (hl 0 (by simp)).symm
   simp only [List.length_cons, preL, Bool.and_eq_true] at hB
   obtain ⟨⟨hr, hf⟩, hB'⟩ := hB
   obtain ⟨v, hy, hK⟩ := h
   have hkm : k < m := by simp only [List.length_cons] at hk; omega
   refine wpAnyC_first h0 (Region.noSelect_spec hs) (fun c a w h => hQ c a _ _ w h) (hwait k hkm) (tail.length + 1 + l.length) listed a w hC (Region.free_spec h0 hf) (by simpa using hr) hy hS ?_
   exact wpAnyX_pre hs hQ m hm ho hg hwait htl htn l (k + 1) _ _ w (by simp only [List.length_cons] at hk; omega) (fun j hj => by have := hl (j + 1) (by simp; omega); simpa [Nat.add_assoc, Nat.add_comm 1 j] using this) (hC.step (by simpa using hr)) hS hB' hK
theorem wp_region_pre {id : Nat} {a : Act} {w : World} {l : List Oper} (m : Nat) (S : World → Prop) (o : Oper) (hm : P.follows .mixedOrders = true) (ho : l[m]? = some o) (hg : o.guard = none) (hB : preB l.toArray m = true) (hQ : ∀ c a d v w, Q (.panic c) (a.put d v) w → Q (.panic c) a w) (hS : S w.drew)
    (h : wpHead P l.toArray S (fun a' => ∀ K : Act → World → Prop, (∀ a'' w'', S w'' → (∃ C : World → Prop, C w'' ∧ wpQuiet P l.toArray C (fun a3 => ∀ w3, C w3 → Q .normal a3 w3) (l.drop (m + 1)) a'') → K a'' w'') → o.wp P a' w.drew K Q) (l.take m) a) : (Code.region id l.toArray true).wp P Q a w := by
 unfold preB at hB
 simp only [Bool.and_eq_true, decide_eq_true_eq] at hB
 obtain ⟨⟨⟨hsel, hms⟩, hwt⟩, hlex⟩ := hB
 have hms' : m < l.length := by simpa using hms
 have htk : (l.take m).length = m := by rw [List.length_take]; omega
 have hdr : (l.drop (m + 1)).length = l.toArray.size - (m + 1) := by simp
 refine wp_region_any hm (wpAny_of_X (S := S) (n := m + 1) _ _ _ _ ?_)
 have hwait : ∀ i, i < m → restB .any l.toArray (m + 1) (m + 1) i = true := fun i hi => List.all_eq_true.1 hwt i (List.mem_range.2 hi)
 have := wpAnyX_pre (P := P) (Q := Q) (S := S) (ops := l.toArray) (tail := l.drop (m + 1)) hsel hQ m hms (o := o) (by simpa using ho) hg hwait (fun j => by simp [List.getElem?_drop]) hdr (l.take m) 0 (Array.replicate l.toArray.size false) a w.drew (by rw [htk, Nat.zero_add])
  (fun j hj => by rw [htk] at hj; simp [hj]) (Clo.start _ _) hS (by rw [htk]; exact hlex) h
 rw [hdr, htk, show l.toArray.size - (m + 1) + 1 + m = l.toArray.size by simp; omega] at this
 exact this
end
def OwnM (w : World) (base : Nat) (v : Value) (ls : List MonD) : Prop := w.ownsRow base 66 4 v ls.length (cellsM ls)
theorem OwnM.up {w w' : World} {base : Nat} {v : Value} {ls : List MonD} (h : OwnM w base v ls) (hb : Below w.heap.size w w') : OwnM w' base v ls := own_below h hb
theorem OwnM.lit (w : World) (base : Nat) (hb : base ≤ w.heap.size) : OwnM (w.alloc (.cells #[] 66)) base (.slice (some ⟨w.heap.size, 0, none⟩) 0 0) [] :=
 World.ownsRow_lit (e := 66) (size := 4) w #[] 0 hb (by unfold maxLen; omega) rfl
theorem OwnM.reads {w : World} {base : Nat} {v : Value} {ls : List MonD} (h : OwnM w base v ls) : ∃ A c, v = .slice A ls.length c ∧ RMons w A ls := by
 have hf : ∃ A c, v = .slice A ls.length c := by
  rcases h.2 with ⟨e1, h0⟩ | ⟨g, cap, cur, e1, _⟩
  ·exact ⟨_, _, by rw [h0]; exact e1⟩
  ·exact ⟨_, _, e1⟩
 obtain ⟨A, c, rfl⟩ := hf
 exact ⟨A, c, rfl, Rd.of_own h⟩
theorem Tryz.infMono : (Tryz.prog.info? 66).map (fun i => (i.zero, i.size, i.bytes)) = some (some (.agg #[.int .i64 0, .int .i64 0, .int .i64 0, .int .i64 0]), 4, 32) := by kernel_rfl
theorem step_append_M {w w0 : World} {ops : Array Oper} {o : Oper} {a : Act} {K : Act → World → Prop} {Q : Exit → Act → World → Prop} {E : Prop} (hgd : o.guard = none) (s x : Operand)
    (ho : o.op = .call { callee := .builtin .append, args := #[s, x], argTypes := #[69, 69] })
    {base B : Nat} {v : Value} {ls : List MonD} {m : MonD} {g c : Nat} (hs : a.eval s = v) (hx : a.eval x = .slice (some ⟨g, 0, none⟩) 1 c) (hO : OwnM w base v ls) (hR : Bk w g 66 #[.int .i64 m.x0, .int .i64 m.x1, .int .i64 m.x2, .int .i64 m.x3])
    (hlen : ls.length ≤ 1000) (hB : Below B w0 w) (hBb : B ≤ base) (hbase : base ≤ w.heap.size)
    (h : ∀ v' w', OwnM w' base v' (ls ++ [m]) → Below B w0 w' → K (a.put o.dst v') w') : if Region.wanted o (yielded ops a.tmps) = true then Oper.wp Tryz.prog o a w K Q else E := by
 obtain ⟨i0, hi0, hz0, hz1, hz2⟩ := info_split Tryz.infMono
 have hr : Rd w w.heap.size 4 (some ⟨g, 0, none⟩) 1 [.int .i64 m.x0, .int .i64 m.x1, .int .i64 m.x2, .int .i64 m.x3] := ⟨rfl, fun _ => ⟨_, rfl, hR.lt, fun j u hu => by
  rw [add_win, Nat.zero_add, hR.cell]; simpa using hu⟩⟩
 refine step_append_rdN w hgd s x 69 ho base 66 i0 _ 4 32 Tryz.slMo hi0 hz0 hz1 hz2 rfl (by decide) v ls.length _ hs hO _ _ 1 c _ hx hr (by intro u hu; simp at hu; rcases hu with rfl | rfl | rfl | rfl <;> rfl) (by unfold maxLen; omega) (by omega) hbase ?_
 intro v' w' h1 hg _
 refine h v' w' ?_ (hB.grown hg (Nat.le_trans hBb hbase) fun k hk => Nat.le_trans hBb (own_bk hO hk).2)
 unfold OwnM
 rw [List.length_append]
 have : cellsM (ls ++ [m]) = cellsM ls ++ [.int .i64 m.x0, .int .i64 m.x1, .int .i64 m.x2, .int .i64 m.x3] := by simp [cellsM]
 rw [this]
 exact h1
theorem pairChains (A : Option Addr) (c : Nat) (ms : List (Int × Int × Int)) (a b : Nat) (w : World) (h : Rd w w.heap.size 3 A ms.length (flat3 ms)) (hm : ∀ m ∈ ms, (0 ≤ m.1 ∧ m.1 ≤ 255) ∧ (0 ≤ m.2.1 ∧ m.2.1 ≤ 255) ∧ (0 ≤ m.2.2 ∧ m.2.2 ≤ 255)) (ha : a ≤ 255) (hb : b ≤ 255) :
    Calls Tryz.prog 8 #[.slice A ms.length c, .int .u8 a, .int .u8 b] w fun e w' => e = .returned (.bool true) ∧ Below w.heap.size w w' := by
 have HR := Hd.mk h
 have HM := Hd.mk hm
 have CS := Hd.mk law13_shown
 clear h hm
 go_enter Tryz.func8, Tryz.ntmps8
 by_cases h1 : (ms.length : Int) > 12
 case pos =>
  go_wp2_with fail
  refine (CS.out _).mono ?_
  rintro e w2 ⟨rfl, hb⟩
  have HB := Hd.mk hb
  clear hb
  go_wp2_with fail
  go_ret
  exact ⟨rfl, HB.out⟩
 by_cases h2 : (ms.length : Int) < 2
 case pos =>
  go_wp2_with fail
  refine (CS.out _).mono ?_
  rintro e w2 ⟨rfl, hb⟩
  have HB := Hd.mk hb
  clear hb
  go_wp2_with fail
  go_ret
  exact ⟨rfl, HB.out⟩
 go_wp2_with fail
 refine (CS.out _).mono ?_
 rintro e w2 ⟨rfl, hb2⟩
 have HB2 := Hd.mk hb2
 clear hb2 CS
 go_upto_region 4 with (fail)
 refine wp_gen (fun W => Below w.heap.size w W ∧ OwnM W w.heap.size (.slice (some ⟨w2.heap.size, 0, none⟩) 0 0) []) ⟨HB2.out.alloc HB2.out.size _, OwnM.lit w2 _ HB2.out.size⟩ ?_
 intro W3 H3
 have HB3 := Hd.mk H3.out.1
 have HO := Hd.mk H3.out.2
 clear H3
 go_wp2_with fail
 go_loopw [7, 8] (fun v7 v8 wr => ∃ (i : Nat) (acc : List MonD), v8 = .int .i64 i ∧ i ≤ ms.length ∧ Hd (acc = (modL ms).take i) ∧ Hd (acc.length = i) ∧ Hd (OwnM wr w.heap.size v7 acc) ∧ Hd (Below w.heap.size w wr)) (fun _ v _ => ms.length - (intOf v).toNat)
 case atStart => exact ⟨0, [], rfl, by omega, ⟨rfl⟩, ⟨rfl⟩, HO, HB3⟩
 case round =>
  clear HO HB3
  obtain ⟨i, acc, rfl, hi, HFA, HLN, HO, HB⟩ := hrel
  obtain ⟨Av, cv, rfl, hrv⟩ := HO.out.reads
  have HRV := Hd.mk hrv
  clear hrv
  by_cases hlt : i < ms.length
  case pos =>
   have i1 : (i : Int) < ms.length := by omega
   have i3 : (0 : Int) ≤ i := by omega
   obtain ⟨m, hm⟩ : ∃ m, ms[i]? = some m := ⟨_, List.getElem?_eq_getElem hlt⟩
   obtain ⟨bd, eB, hbb, hcb⟩ := HR.out.2 (by omega)
   obtain ⟨f0, f1, f2⟩ := flat3_get hm
   have q1 := hcb _ _ f0
   have q2 := hcb _ _ f1
   have q3 := hcb _ _ f2
   rw [add_pos _ _ 1 (by omega)] at q2
   rw [add_pos _ _ 2 (by omega)] at q3
   subst eB
   have HFL : Hd (acc ++ [⟨(IntKind.i64.wrap m.1).tmod 5, (IntKind.i64.wrap m.2.1).tmod 5, (IntKind.i64.wrap m.2.2).tmod 5, 0⟩] = (modL ms).take (i + 1)) := ⟨by
    have mb := HM.out m (List.mem_of_getElem? hm)
    have v1 : IntKind.i64.wrap m.1 = m.1 := by rw [IntKind.wrap_i64]; omega
    have v2 : IntKind.i64.wrap m.2.1 = m.2.1 := by rw [IntKind.wrap_i64]; omega
    have v3 : IntKind.i64.wrap m.2.2 = m.2.2 := by rw [IntKind.wrap_i64]; omega
    rw [v1, v2, v3, HFA.out]
    unfold modL
    rw [← List.map_take, ← List.map_take, List.take_add_one, hm, List.map_append]
    rfl⟩
   have SO := Hd.mk (fun W (hB : Below w.heap.size w W) => And.intro (Hd.mk hB) (And.intro (cell_up q1 hB) (And.intro (cell_up q2 hB) (cell_up q3 hB))))
   clear hm f0 f1 f2 hcb q1 q2 q3
   go_upto_region 7 with (fail)
   go_region_held3 (fun W => Hd (Below w.heap.size w W) ∧ W.cell? (bd.add (i * 3)) = some (.int .u8 m.1) ∧ W.cell? ⟨(bd.add (i * 3)).block, (bd.add (i * 3)).off + 1, none⟩ = some (.int .u8 m.2.1) ∧ W.cell? ⟨(bd.add (i * 3)).block, (bd.add (i * 3)).off + 2, none⟩ = some (.int .u8 m.2.2))
    (first
     | with_reducible exact SO.out _ HB.out
     | with_reducible exact SO.out _ HB.out.drew
     | with_reducible exact SO.out _ (HB.out.alloc HB.out.size _).drew
     | with_reducible exact SO.out _ hB8
     | fail)
    (first
     | (refine step_append_M (w0 := w) (B := w.heap.size) (m := ⟨(IntKind.i64.wrap m.1).tmod 5, (IntKind.i64.wrap m.2.1).tmod 5, (IntKind.i64.wrap m.2.2).tmod 5, 0⟩) rfl _ _ rfl rfl rfl (HO.out.up ((Below.refl _ _).alloc (Nat.le_refl _) _).drew) (Bk.new_ _ _ _).d1 (by have := HLN.out; omega) (HB.out.alloc HB.out.size _).drew (Nat.le_refl _) (HB.out.alloc HB.out.size _).drew.size ?_; intro v' w8 hO8 hB8))
   all_goals
    have HO8 := Hd.mk hO8
    have HB8 := Hd.mk hB8
    clear hO8 hB8
    go_wp2_with fail
    go_roundw
    case measure => first | (simp [intOf]; done) | (simp [intOf]; omega)
    case rel => exact ⟨i + 1, _, by go_num, by omega, HFL, ⟨by rw [List.length_append, HLN.out]; rfl⟩, HO8, HB8⟩
  case neg =>
   have i1 : ¬ (i : Int) < ms.length := by omega
   obtain rfl : i = ms.length := by omega
   have hl1 : 2 ≤ acc.length := by have := HLN.out; omega
   have hl2 : acc.length ≤ 12 := by have := HLN.out; omega
   have HN := Hd.mk hl2
   have n0 : (acc.length : Int) ≠ 0 := by omega
   obtain ⟨x, rx, hx⟩ : ∃ x : Nat, (a : Int).tmod acc.length = x ∧ x < acc.length := ⟨a % acc.length, rfl, Nat.mod_lt _ (by omega)⟩
   obtain ⟨y, ry, hy⟩ : ∃ y : Nat, (b : Int).tmod acc.length = y ∧ y < acc.length := ⟨b % acc.length, rfl, Nat.mod_lt _ (by omega)⟩
   obtain ⟨lo, hlo⟩ : ∃ lo, min (x : Int) y = lo := ⟨_, rfl⟩
   obtain ⟨hg, hhg⟩ : ∃ hg, max (x : Int) y = hg := ⟨_, rfl⟩
   go_upto_region 11 with (fail)
   refine wp_gen (fun W => Below wr.heap.size wr W ∧ Bk W wr.heap.size 23 #[.int .i64 lo, .int .i64 hg]) ⟨(Below.refl _ _).alloc (Nat.le_refl _) _, Bk.new_ _ _ _⟩ ?_
   intro W4 H4
   have HB4 := Hd.mk (HB.out.trans (H4.out.1.mono HB.out.size))
   have K4 := Hd.mk H4.out.2
   have HRV4 := Hd.mk (HRV.out.up H4.out.1)
   have HXY := Hd.mk (And.intro hlo hhg)
   generalize wr.heap.size = g11 at K4 ⊢
   clear H4 HRV HB HO HFA HLN rx ry n0 i1 hlo hhg
   obtain ⟨d0, d1⟩ := K4.out.pair
   by_cases hxy : x = y
   case pos =>
    have e1 : ((x : Int) == (y : Int)) = true := by rw [beq_iff_eq]; omega
    have e2 : (x == y) = true := by rw [beq_iff_eq]; omega
    have CU := Hd.mk (pair_Useless Av none cv 0 acc lo hg [] W4 HRV4.out (by omega) (RPrs.nil _ _) (by simp))
    have hl : lo = x ∧ hg = x := by have := HXY.out; omega
    rw [hl.1, hl.2, chains_same, List.length_nil, ← hl.1] at CU
    have CU' : Hd (Calls Tryz.prog 32 #[.slice Av acc.length cv, .agg #[.int .i64 lo, .int .i64 hg], .slice none 0 0] W4 fun e w' => e = .returned (.bool false) ∧ Below W4.heap.size W4 w') := ⟨by rw [hl.2, ← hl.1]; exact CU.out⟩
    clear hl CU hxy
    go_wp2_with fail
    refine CU'.out.mono ?_
    rintro e w5 ⟨rfl, hb5⟩
    have HB5 := Hd.mk (goes HB4.out hb5)
    clear hb5
    go_wp2_with fail
    go_ret
    exact ⟨rfl, HB5.out⟩
   have e1 : ((x : Int) == (y : Int)) = false := by rw [beq_eq_false_iff_ne]; omega
   have e2 : (x == y) = false := by rw [beq_eq_false_iff_ne]; omega
   have CH := Hd.mk (chains_law (ls := acc) (by omega) hx hy hxy)
   rw [HXY.out.1, HXY.out.2] at CH
   have x1 : (x : Int) < acc.length := by omega
   have y1 : (y : Int) < acc.length := by omega
   have x3 : (0 : Int) ≤ x := by omega
   have y3 : (0 : Int) ≤ y := by omega
   obtain ⟨ad, m, rfl, -, hm, c0, c1, c2, c3⟩ := HRV4.out.get hx
   obtain ⟨ad', m', e, -, hm', k0, k1, k2, k3⟩ := HRV4.out.get hy
   injection e with e
   subst e
   have HLM : Hd (monLcm (atM acc x) (atM acc y) = monLcm m m') := ⟨by rw [atM_of hm.out, atM_of hm'.out]⟩
   have CL := Hd.mk (rmon_Lcm m m')
   simp only [MonD.v] at CL
   rw [HLM.out] at CH
   obtain ⟨z, hz⟩ : ∃ z, monLcm m m' = z := ⟨_, rfl⟩
   rw [hz] at CL CH
   clear hz hm hm' HLM
   obtain ⟨T, hT⟩ : ∃ T, thirdD acc z x y = T := ⟨_, rfl⟩
   rw [hT] at CH
   have HT0 : Hd (T 0 = false) := ⟨by rw [← hT]; rfl⟩
   have HT1 : Hd (∀ k, T (k + 1) = (T k || thirdAt acc z x y k)) := ⟨fun k => by rw [← hT]; exact thirdD_succ _ _ _ _ _⟩
   clear hT
   have SO := Hd.mk (fun W (hB : Below W4.heap.size W4 W) => And.intro (Hd.mk hB) (And.intro (cell_up c0 hB) (And.intro (cell_up c1 hB) (And.intro (cell_up c2 hB) (And.intro (cell_up c3 hB) (And.intro (cell_up k0 hB) (And.intro (cell_up k1 hB) (And.intro (cell_up k2 hB) (cell_up k3 hB)))))))))
   clear hxy d0 d1
   go_upto_region 14 with (fail)
   go_cut [13] (fun v13 wx => ∃ g13, v13 = .pointer (some ⟨g13, 0, none⟩) ∧ Hd (Bk wx g13 66 #[.int .i64 z.x0, .int .i64 z.x1, .int .i64 z.x2, .int .i64 z.x3]) ∧ Hd (Below W4.heap.size W4 wx))
   case first =>
    go_region_held3 (fun W => Hd (Below W4.heap.size W4 W) ∧
        W.cell? (ad.add (x * 4)) = some (.int .i64 m.x0) ∧ W.cell? ⟨(ad.add (x * 4)).block, (ad.add (x * 4)).off + 1, none⟩ = some (.int .i64 m.x1) ∧ W.cell? ⟨(ad.add (x * 4)).block, (ad.add (x * 4)).off + 2, none⟩ = some (.int .i64 m.x2) ∧ W.cell? ⟨(ad.add (x * 4)).block, (ad.add (x * 4)).off + 3, none⟩ = some (.int .i64 m.x3) ∧
        W.cell? (ad.add (y * 4)) = some (.int .i64 m'.x0) ∧ W.cell? ⟨(ad.add (y * 4)).block, (ad.add (y * 4)).off + 1, none⟩ = some (.int .i64 m'.x1) ∧ W.cell? ⟨(ad.add (y * 4)).block, (ad.add (y * 4)).off + 2, none⟩ = some (.int .i64 m'.x2) ∧ W.cell? ⟨(ad.add (y * 4)).block, (ad.add (y * 4)).off + 3, none⟩ = some (.int .i64 m'.x3))
     (first
      | with_reducible exact SO.out _ (.refl _ _)
      | with_reducible exact SO.out _ (Below.refl _ _).drew
      | with_reducible exact SO.out _ ((Below.refl _ _).drew.alloc (Nat.le_refl _) _)
      | with_reducible exact SO.out _ ((Below.refl _ _).alloc (Nat.le_refl _) _).drew
      | with_reducible exact SO.out _ hB5
      | with_reducible exact SO.out _ (hB5.alloc hB5.size _)
      | with_reducible exact SO.out _ (below_set4 hB5 (Nat.le_refl _) _ _ _ _)
      | with_reducible exact SO.out _ (below_set4 (hB5.alloc hB5.size _) hB5.size _ _ _ _)
      | fail)
     (first
      | (go_at_call 33; have hB := ‹Hd (Below W4.heap.size W4 _) ∧ _›.1; with_reducible refine (CL.out ((W4.alloc (Obj.cells #[.int .i64 0, .int .i64 0, .int .i64 0, .int .i64 0] 66)).drew)).mono ?_; rintro e w8 ⟨rfl, hb⟩
         have hB5 := hB.out.trans (hb.mono hB.out.size)
         have hk := Hd.mk ((Bk.new_ W4 66 #[.int .i64 0, .int .i64 0, .int .i64 0, .int .i64 0]).d1.up hb)
         obtain ⟨p6, p7, p8, p9⟩ := hk.out.four
         have fz := fun i => hk.out.froz i)
      | (go_at_call 33; have hB := ‹Hd (Below W4.heap.size W4 _) ∧ _›.1; with_reducible refine (CL.out _).mono ?_; rintro e w8 ⟨rfl, hb⟩
         have hB5 := hB.out.trans (hb.mono hB.out.size)))
    all_goals
     go_wp2_with fail
     go_meet
     first
     | exact ⟨_, rfl, ⟨hk.out.set4 (.int .i64 z.x0) (.int .i64 z.x1) (.int .i64 z.x2) (.int .i64 z.x3)⟩, ⟨below_set4 hB5 (Nat.le_refl _) (.int .i64 z.x0) (.int .i64 z.x1) (.int .i64 z.x2) (.int .i64 z.x3)⟩⟩
     | exact ⟨_, rfl, ⟨Bk.new_ w8 66 #[.int .i64 z.x0, .int .i64 z.x1, .int .i64 z.x2, .int .i64 z.x3]⟩, ⟨hB5.alloc hB5.size (Obj.cells #[.int .i64 z.x0, .int .i64 z.x1, .int .i64 z.x2, .int .i64 z.x3] 66)⟩⟩
   case rest =>
    obtain ⟨g13, rfl, K13, HB5⟩ := hcut
    have HB5' := Hd.mk (goes HB4.out HB5.out)
    have K5 := Hd.mk (K4.out.up HB5.out)
    have HRV5 := Hd.mk (HRV4.out.up HB5.out)
    clear SO CL c0 c1 c2 c3 k0 k1 k2 k3 HB5 K4 HRV4 HB4
    go_wp2_with fail
    go_loopw [12, 14] (fun v12 v14 wr => ∃ (k : Nat) (th : Bool), v14 = .int .i64 k ∧ k ≤ acc.length ∧ v12 = .bool th ∧ Hd (T k = th) ∧ Hd (Below wc.heap.size wc wr)) (fun _ v _ => acc.length - (intOf v).toNat)
    case atStart => exact ⟨0, false, rfl, by omega, rfl, HT0, ⟨.refl _ _⟩⟩
    case round =>
     obtain ⟨k, th, rfl, hk, rfl, HTk, HB6⟩ := hrel
     by_cases hlt : k < acc.length
     case pos =>
      have i1 : (k : Int) < acc.length := by omega
      have i3 : (0 : Int) ≤ k := by omega
      obtain ⟨k0, k1, k2, k3⟩ := (K13.out.up HB6.out).four
      obtain ⟨ad', mi, e, -, hmi, c0, c1, c2, c3⟩ := (HRV5.out.up HB6.out).get hlt
      injection e with e
      subst e
      have HMI := Hd.mk (atM_of hmi.out)
      clear hmi
      have CD := Hd.mk (rmon_Div z mi)
      simp only [MonD.v] at CD
      obtain ⟨⟨is, q⟩, hD⟩ : ∃ X, monDiv z mi = X := ⟨_, rfl⟩
      rw [hD] at CD
      dsimp only at CD
      have HAT : Hd (T (k + 1) = (th || (is && !decide ((k : Int) = x) && !decide ((k : Int) = y)))) := ⟨by
       rw [HT1.out, HTk.out]
       unfold thirdAt
       rw [HMI.out, hD]⟩
      have SO := Hd.mk (fun W (hB : Below wr.heap.size wr W) => And.intro (Hd.mk hB) (And.intro (cell_up k0 hB) (And.intro (cell_up k1 hB) (And.intro (cell_up k2 hB) (And.intro (cell_up k3 hB) (And.intro (cell_up c0 hB) (And.intro (cell_up c1 hB) (And.intro (cell_up c2 hB) (cell_up c3 hB)))))))))
      clear hD
      go_upto_region 18 with (fail)
      go_cut [16] (fun v16 wx => v16 = .bool is ∧ Hd (Below wr.heap.size wr wx))
      case first =>
       go_region_held3 (fun W => Hd (Below wr.heap.size wr W) ∧ W.cell? ⟨g13, 0, none⟩ = some (.int .i64 z.x0) ∧ W.cell? ⟨g13, 1, none⟩ = some (.int .i64 z.x1) ∧ W.cell? ⟨g13, 2, none⟩ = some (.int .i64 z.x2) ∧ W.cell? ⟨g13, 3, none⟩ = some (.int .i64 z.x3) ∧
           W.cell? (ad.add (k * 4)) = some (.int .i64 mi.x0) ∧ W.cell? ⟨(ad.add (k * 4)).block, (ad.add (k * 4)).off + 1, none⟩ = some (.int .i64 mi.x1) ∧ W.cell? ⟨(ad.add (k * 4)).block, (ad.add (k * 4)).off + 2, none⟩ = some (.int .i64 mi.x2) ∧ W.cell? ⟨(ad.add (k * 4)).block, (ad.add (k * 4)).off + 3, none⟩ = some (.int .i64 mi.x3))
        (first
         | with_reducible exact SO.out _ (.refl _ _)
         | with_reducible exact SO.out _ (Below.refl _ _).drew
         | with_reducible exact SO.out _ ((Below.refl _ _).drew.alloc (Nat.le_refl _) _)
         | with_reducible exact SO.out _ ((Below.refl _ _).alloc (Nat.le_refl _) _).drew
         | with_reducible exact SO.out _ hB5
         | with_reducible exact SO.out _ (hB5.alloc hB5.size _)
         | with_reducible exact SO.out _ (below_set4 hB5 (Nat.le_refl _) _ _ _ _)
         | with_reducible exact SO.out _ (below_set4 (hB5.alloc hB5.size _) hB5.size _ _ _ _)
         | fail)
        (first
         | (go_at_call 34; have hB := ‹Hd (Below wr.heap.size wr _) ∧ _›.1; with_reducible refine (CD.out ((wr.alloc (Obj.cells #[.int .i64 0, .int .i64 0, .int .i64 0, .int .i64 0] 66)).drew)).mono ?_; rintro e w8 ⟨rfl, hb⟩
            have hB5 := hB.out.trans (hb.mono hB.out.size)
            have hk := Hd.mk ((Bk.new_ wr 66 #[.int .i64 0, .int .i64 0, .int .i64 0, .int .i64 0]).d1.up hb)
            obtain ⟨p6, p7, p8, p9⟩ := hk.out.four
            have fz := fun i => hk.out.froz i)
         | (go_at_call 34; have hB := ‹Hd (Below wr.heap.size wr _) ∧ _›.1; with_reducible refine (CD.out _).mono ?_; rintro e w8 ⟨rfl, hb⟩
            have hB5 := hB.out.trans (hb.mono hB.out.size)))
       all_goals
        have hB9 := ‹Hd (Below wr.heap.size wr _) ∧ _›.1
        go_wp2_with fail
        go_meet
        exact ⟨rfl, hB9⟩
      case rest =>
       obtain ⟨rfl, HB7⟩ := hcut
       have HB8 := Hd.mk (goes HB6.out HB7.out)
       clear SO CD k0 k1 k2 k3 c0 c1 c2 c3 HB7 HB6
       cases th with
       | true =>
         have HE : Hd (T (k + 1) = true) := ⟨by rw [HAT.out]; rfl⟩
         go_wp2_with fail
         exact ⟨⟨k + 1, true, by go_num, by omega, rfl, HE, HB8⟩, by simp [intOf]; omega⟩
       | false =>
         cases is with
         | false =>
           have HE : Hd (T (k + 1) = false) := ⟨by rw [HAT.out]; rfl⟩
           go_wp2_with fail
           exact ⟨⟨k + 1, false, by go_num, by omega, rfl, HE, HB8⟩, by simp [intOf]; omega⟩
         | true =>
           by_cases hkx : k = x
           case pos =>
            have a1 : ((k : Int) != (x : Int)) = false := by rw [bne_eq_false_iff_eq]; omega
            have a2 : (k != x) = false := by rw [bne_eq_false_iff_eq]; omega
            have HE : Hd (T (k + 1) = false) := ⟨by rw [HAT.out, decide_eq_true (show (k : Int) = x by omega)]; rfl⟩
            clear hkx
            go_wp2_with fail
            exact ⟨⟨k + 1, false, by go_num, by omega, rfl, HE, HB8⟩, by simp [intOf]; omega⟩
           have a1 : ((k : Int) != (x : Int)) = true := by rw [bne_iff_ne]; omega
           have a2 : (k != x) = true := by rw [bne_iff_ne]; omega
           by_cases hky : k = y
           case pos =>
            have a3 : ((k : Int) != (y : Int)) = false := by rw [bne_eq_false_iff_eq]; omega
            have a4 : (k != y) = false := by rw [bne_eq_false_iff_eq]; omega
            have HE : Hd (T (k + 1) = false) := ⟨by rw [HAT.out, decide_eq_true (show (k : Int) = y by omega), Bool.not_true, Bool.and_false]; rfl⟩
            clear hkx hky
            go_wp2_with fail
            exact ⟨⟨k + 1, false, by go_num, by omega, rfl, HE, HB8⟩, by simp [intOf]; omega⟩
           have a3 : ((k : Int) != (y : Int)) = true := by rw [bne_iff_ne]; omega
           have a4 : (k != y) = true := by rw [bne_iff_ne]; omega
           have HE : Hd (T (k + 1) = true) := ⟨by rw [HAT.out, decide_eq_false (show ¬ (k : Int) = x by omega), decide_eq_false (show ¬ (k : Int) = y by omega)]; rfl⟩
           clear hkx hky
           go_wp2_with fail
           exact ⟨⟨k + 1, true, by go_num, by omega, rfl, HE, HB8⟩, by simp [intOf]; omega⟩
     case neg =>
      have i1 : ¬ (k : Int) < acc.length := by omega
      obtain rfl : k = acc.length := by omega
      rw [HTk.out] at CH
      have HB7 := Hd.mk (goes HB5'.out HB6.out)
      have HRV6 := Hd.mk (HRV5.out.up HB6.out)
      obtain ⟨d0, d1⟩ := (K5.out.up HB6.out).pair
      have CN := Hd.mk (pair_All (acc.length : Int) wr.drew)
      clear K13 HT1 HTk HRV5 HB5' HB6 K5
      go_upto_region 20 with (fail)
      refine wp_region_pre 4 (fun W => W.cell? ⟨g11, 0, none⟩ = some (.int .i64 lo) ∧ W.cell? ⟨g11, 1, none⟩ = some (.int .i64 hg)) _ (by kernel_rfl) rfl rfl (by kernel_rfl) (fun c a d v w h => by cases d <;> exact h) ⟨d0, d1⟩ ?_
      simp only [List.take_succ_cons, List.take_zero, List.drop_succ_cons, List.drop_zero]
      iterate 4 (refine ⟨?_, Or.inl ⟨by rfl, ?_⟩, ?_⟩; rotate_left; (rintro W ⟨hW1, hW2⟩; go_simp; try with_reducible rfl); simp only [Act.put, List.setIfInBounds_toArray, List.set_cons_zero, List.set_cons_succ])
      refine wpHead_nil ?_
      intro K hK
      go_simp
      refine CN.out.mono ?_
      rintro e w7 ⟨A7, c7, rfl, hr7, hb7⟩
      have HB8 : Hd (Below wr.heap.size wr w7) := ⟨(Below.refl wr.heap.size wr).drew.trans hb7⟩
      refine hK _ _ ⟨cell_up d0 HB8.out, cell_up d1 HB8.out⟩ ⟨fun W => ∃ n : Wd w7, W = n.w, ⟨⟨w7, .refl _ _⟩, rfl⟩, ?_⟩
      have hal : (allP (acc.length : Int)).length ≤ 1000000 := by
       have h1 := allP_len (k := acc.length) (by have := HN.out; omega)
       have h2 : acc.length * (acc.length - 1) ≤ 12 * 12 := Nat.mul_le_mul HN.out (by have := HN.out; omega)
       omega
      have hl6 : acc.length ≤ 1000000 := by have := HN.out; omega
      have C1 := Hd.mk (fun n : Wd w7 => pair_Chained (some ad) A7 cv c7 acc lo hg _ n.w (HRV6.out.up (goes HB8.out n.lo)) hl6 (hr7.up n.lo) hal)
      have C2 := Hd.mk (fun n : Wd w7 => pair_Chained (some ad) none cv 0 acc lo hg [] n.w (HRV6.out.up (goes HB8.out n.lo)) hl6 (RPrs.nil _ _) (by simp))
      have C3 := Hd.mk (fun n : Wd w7 => pair_Useless (some ad) none cv 0 acc lo hg [] n.w (HRV6.out.up (goes HB8.out n.lo)) hl6 (RPrs.nil _ _) (by simp))
      have C4 := Hd.mk (fun n : Wd w7 => pair_Apart (some ad) cv acc lo hg n.w (HRV6.out.up (goes HB8.out n.lo)) hl6)
      rw [CH.out.1] at C1
      rw [CH.out.2.1] at C2
      rw [CH.out.2.2] at C3
      simp only [List.length_nil] at C2 C3
      generalize apartD acc (lo, hg) = ap at C3 C4
      generalize (allP (acc.length : Int)).length = al at C1
      have d0 := Wd.cell (cell_up d0 HB8.out)
      have d1 := Wd.cell (cell_up d1 HB8.out)
      have HB9 := Hd.mk (goes HB7.out HB8.out)
      have q1 : (th == th) = true := by simp
      clear hK CH CN hb7 hr7 hal HB8 HB7 HRV6 HT0
      cases th with
      | true =>
        rw [Bool.true_or] at C3
        repeat (go_big_quiet_step ((first
         | (go_at_call 35; first | with_reducible exact Wd.call (C1.out _) | with_reducible exact Wd.call (C2.out _))
         | (go_at_call 32; exact Wd.call (C3.out _))
         | (go_at_call 28; exact Wd.call (C4.out _)))))
        refine wd_nil fun nq => ?_
        go_wp2_with fail
        go_ret
        exact ⟨rfl, goes HB9.out nq.lo⟩
      | false =>
        rw [Bool.false_or] at C3
        have q2 : (ap == ap) = true := by simp
        repeat (go_big_quiet_step ((first
         | (go_at_call 35; first | with_reducible exact Wd.call (C1.out _) | with_reducible exact Wd.call (C2.out _))
         | (go_at_call 32; exact Wd.call (C3.out _))
         | (go_at_call 28; exact Wd.call (C4.out _)))))
        refine wd_nil fun nq => ?_
        go_wp2_with fail
        go_ret
        exact ⟨rfl, goes HB9.out nq.lo⟩
theorem law_PairChains (A : Option Addr) (c : Nat) (ms : List (Int × Int × Int)) (a b : Int) (w : World) (h : Rd w w.heap.size 3 A ms.length (flat3 ms)) (hm : ∀ m ∈ ms, (0 ≤ m.1 ∧ m.1 ≤ 255) ∧ (0 ≤ m.2.1 ∧ m.2.1 ≤ 255) ∧ (0 ≤ m.2.2 ∧ m.2.2 ≤ 255)) (ha : 0 ≤ a) (ha2 : a ≤ 255) (hb : 0 ≤ b) (hb2 : b ≤ 255) :
    Calls Tryz.prog 8 #[.slice A ms.length c, .int .u8 a, .int .u8 b] w fun e w' => e = .returned (.bool true) ∧ Below w.heap.size w w' := by
 obtain ⟨a', rfl⟩ : ∃ n : Nat, a = n := ⟨a.toNat, by omega⟩
 obtain ⟨b', rfl⟩ : ∃ n : Nat, b = n := ⟨b.toNat, by omega⟩
 exact pairChains A c ms a' b' w h hm (by omega) (by omega)
end Go.Proofs.YtgjkgkgieeoalaaGreat
