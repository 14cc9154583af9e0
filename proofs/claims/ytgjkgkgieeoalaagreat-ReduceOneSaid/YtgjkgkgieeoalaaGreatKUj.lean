/- Proved: whatever the input, syzygylaw14.ReduceOne returns true, and the input reads as it did (ReduceOneSaid). No condition. -/
import Derived.Test.YtgjkgkgieeoalaaGreatE01
import Derived.Test.YtgjkgkgieeoalaaGreatE27
import Derived.Test.YtgjkgkgieeoalaaGreatE36
import Derived.Test.YtgjkgkgieeoalaaGreatRows
import Derived.WalkKit
import Derived.ProofKit
import Derived.OpenShut
import Derived.ShutString
import Derived.ChangeOld
import Derived.Below
set_option linter.unusedVariables false
set_option linter.unusedSimpArgs false
set_option maxHeartbeats 24000000
set_option maxRecDepth 100000
namespace Go.Proofs.YtgjkgkgieeoalaaGreat.reduceOneDone
open Go.ChangeShapes Go.WideShapes Go.ChangeAt Go.RowKit Go.Proofs.YtgjkgkgieeoalaaGreat
set_option linter.unusedVariables false
theorem own : ownKnob Tryz.prog.godebug = none := by kernel_rfl
theorem laidOut : laidOutB Tryz.prog = true := by kernel_rfl
theorem boolB : Tryz.prog.underlying 4 = some .bool := by kernel_rfl
theorem u8B : Tryz.prog.underlying 5 = some (.int .u8) := by kernel_rfl
theorem i8B : Tryz.prog.underlying 142 = some (.int .i8) := by kernel_rfl
theorem lifted (os : Os) (started : os.Started) (H : Type) (enc : TypeId × Value → H) :
    ReturnsInHanded {} Tryz.checked os 11 .any (Rows.reduceOneSpec.pre6 enc Tryz.prog Tryz.f11 Rows.reduceOneRow.domain false) (Rows.reduceOneSpec.post enc Tryz.prog Tryz.f11 false true false false) := by
 refine returnsInHanded_of_change (C := Tryz.checked) own started (by kernel_rfl) Tryz.func11
  (ChangeSpec.witness6 (enc := enc) (C := Tryz.checked) false ⟨#[], #[.int .u8 0, .agg #[.slice none 0 0, .slice none 0 0]], []⟩ 8 (by kernel_rfl) (by kernel_rfl) (by kernel_rfl) (by kernel_rfl)) ?_
 intro W base args ds gs before hval0 hW hcnd _
 have hval : ∀ (j : Nat) t v, Tryz.f11.params[j]? = some t → args[j]? = some v → Value.okWide Tryz.prog W .any base t v := hval0
 have hW' := hW
 obtain ⟨p, q, hA0, hV, rfl, hfz, hnd⟩ := hW
 have hA : DataW.TrodAll enc Tryz.prog W 0 (fun _ => true) true Tryz.f11.params.toList args.toList ds p := hA0
 rw [Tryz.params11] at hA hval
 obtain ⟨v0, vs0, d0, ds0, p0, q0, hargs, rfl, rfl, h0, r0⟩ := trodAll_cons hA
 obtain ⟨v1, vs1, d1, ds1, p1, q1, rfl, rfl, rfl, h1, r1⟩ := trodAll_cons r0
 obtain ⟨rfl, rfl, rfl⟩ := trodAll_nil r1
 obtain rfl : args = #[v0, v1] := by cases args; simp_all
 obtain ⟨rfl, rfl⟩ := trodVars_none hV
 obtain ⟨a0, rfl, rfl, rfl, w0⟩ := open_int u8B (hval 0 5 v0 rfl rfl) h0
 obtain ⟨lo0, hi0⟩ := bounds_u8 w0
 obtain ⟨_, _, e1, _⟩ := two_of Tryz.fldSmall_14
 obtain ⟨cs1, rfl, _⟩ := okWide_struct e1 (hval 1 83 v1 rfl rfl)
 have k1 := h1
 have lt1 : ∀ x ∈ p1, x.block < W.heap.size := by obtain ⟨m, hm⟩ := k1; exact DataW.trod_lt m _ _ _ hm
 obtain ⟨fu1, hf1⟩ := h1
 obtain ⟨A1, ns1, c1, B1, ms1, d1', e1', R1⟩ := rd_small_14 hf1
 simp only [Value.cells] at e1'
 obtain ⟨cs1⟩ := cs1
 simp only at e1'
 subst e1'
 clear hA0 hval0
 refine (law_ReduceOne a0 _ _ _ _ _ _ W lo0 hi0 R1).mono fun e W' ⟨he, bel⟩ => ?_
 subst he
 exact ⟨_, rfl, _, _, _, [], _, [], hW', trodAll_mk1 (shut_bool boolB _), (trodAll_cons_mk (shut_int u8B w0) (trodAll_cons_mk (Below.trod laidOut (by kernel_rfl) (of_decide_eq_true (by kernel_rfl)) k1 bel lt1) trodAll_mk0)), rfl, bel.frame _, fun h => by cases h⟩
theorem named : Tryz.pinned.checked.prog.funcNamed Rows.reduceOneRow.func = some 11 := by kernel_rfl
theorem closed : joinedFacts Tryz.pinned.checked.prog 11 Tryz.f11 Rows.reduceOneSpec Rows.reduceOneRow = true := by kernel_rfl
theorem over : Rows.reduceOneRow.holds Tryz.pinned (OpenSpec.ofChange Rows.reduceOneSpec) :=
 OpenClaim.holds_of_wide 11 Tryz.f11 rfl rfl rfl rfl rfl rfl rfl ⟨rfl, rfl, rfl, rfl, rfl⟩ rfl rfl rfl rfl rfl named Tryz.func11 closed
  (of_decide_eq_true (by kernel_rfl)) (by unfold Func.isWrapper; first | (rw [if_pos (by decide +kernel)]; kernel_rfl) | (rw [if_neg (by decide +kernel)]; exact ⟨rfl, rfl⟩))
  (fun os started H enc _ => lifted os started H enc)
theorem proved : Rows.ReduceOneSaid := over
#print axioms proved
end Go.Proofs.YtgjkgkgieeoalaaGreat.reduceOneDone
