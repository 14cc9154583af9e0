/- Proved: whatever the input, syzygylaw13.PairChains returns true, and the input reads as it did (PairChainsSaid). No condition. -/
import Derived.Test.YtgjkgkgieeoalaaGreatB36
import Derived.Test.YtgjkgkgieeoalaaGreatRows
import Derived.WalkKit
import Derived.ProofKit
import Derived.OpenShut
import Derived.ShutString
import Derived.ChangeOld
import Derived.Below
set_option linter.unusedVariables false
set_option linter.unusedSimpArgs false
set_option maxHeartbeats 24000000
set_option maxRecDepth 100000
namespace Go.Proofs.YtgjkgkgieeoalaaGreat.pairChainsDone
open Go.ChangeShapes Go.WideShapes Go.ChangeAt Go.RowKit Go.Proofs.YtgjkgkgieeoalaaGreat
set_option linter.unusedVariables false
theorem own : ownKnob Tryz.prog.godebug = none := by kernel_rfl
theorem laidOut : laidOutB Tryz.prog = true := by kernel_rfl
theorem boolB : Tryz.prog.underlying 4 = some .bool := by kernel_rfl
theorem u8B : Tryz.prog.underlying 5 = some (.int .u8) := by kernel_rfl
theorem i8B : Tryz.prog.underlying 142 = some (.int .i8) := by kernel_rfl
theorem lifted (os : Os) (started : os.Started) (H : Type) (enc : TypeId × Value → H) :
    ReturnsInHanded {} Tryz.checked os 8 .any (Rows.pairChainsSpec.pre6 enc Tryz.prog Tryz.f8 Rows.pairChainsRow.domain false) (Rows.pairChainsSpec.post enc Tryz.prog Tryz.f8 false true false false) := by
 refine returnsInHanded_of_change (C := Tryz.checked) own started (by kernel_rfl) Tryz.func8
  (ChangeSpec.witness6 (enc := enc) (C := Tryz.checked) false ⟨#[], #[.slice none 0 0, .int .u8 0, .int .u8 0], []⟩ 8 (by kernel_rfl) (by kernel_rfl) (by kernel_rfl) (by kernel_rfl)) ?_
 intro W base args ds gs before hval0 hW hcnd _
 have hval : ∀ (j : Nat) t v, Tryz.f8.params[j]? = some t → args[j]? = some v → Value.okWide Tryz.prog W .any base t v := hval0
 have hW' := hW
 obtain ⟨p, q, hA0, hV, rfl, hfz, hnd⟩ := hW
 have hA : DataW.TrodAll enc Tryz.prog W 0 (fun _ => true) true Tryz.f8.params.toList args.toList ds p := hA0
 rw [Tryz.params8] at hA hval
 obtain ⟨v0, vs0, d0, ds0, p0, q0, hargs, rfl, rfl, h0, r0⟩ := trodAll_cons hA
 obtain ⟨v1, vs1, d1, ds1, p1, q1, rfl, rfl, rfl, h1, r1⟩ := trodAll_cons r0
 obtain ⟨v2, vs2, d2, ds2, p2, q2, rfl, rfl, rfl, h2, r2⟩ := trodAll_cons r1
 obtain ⟨rfl, rfl, rfl⟩ := trodAll_nil r2
 obtain rfl : args = #[v0, v1, v2] := by cases args; simp_all
 obtain ⟨rfl, rfl⟩ := trodVars_none hV
 obtain ⟨a0, len0, cap0, rfl⟩ := okWide_slice Tryz.slM3 (hval 0 57 v0 rfl rfl)
 have k0 := h0
 have lt0 : ∀ x ∈ p0, x.block < W.heap.size := by obtain ⟨m, hm⟩ := k0; exact DataW.trod_lt m _ _ _ hm
 obtain ⟨fu0, hf0⟩ := h0
 obtain ⟨A0, ms0, c0, e0', hc0, R0, B0⟩ := rd_m3s hf0
 simp [Value.cells] at e0'
 obtain ⟨rfl, rfl, rfl⟩ := e0'
 obtain ⟨a1, rfl, rfl, rfl, w1⟩ := open_int u8B (hval 1 5 v1 rfl rfl) h1
 obtain ⟨lo1, hi1⟩ := bounds_u8 w1
 obtain ⟨a2, rfl, rfl, rfl, w2⟩ := open_int u8B (hval 2 5 v2 rfl rfl) h2
 obtain ⟨lo2, hi2⟩ := bounds_u8 w2
 clear hA0 hval0
 refine (law_PairChains _ _ _ _ _ W R0 B0 lo1 hi1 lo2 hi2).mono fun e W' ⟨he, bel⟩ => ?_
 subst he
 exact ⟨_, rfl, _, _, _, [], _, [], hW', trodAll_mk1 (shut_bool boolB _), (trodAll_cons_mk (Below.trod laidOut (by kernel_rfl) (of_decide_eq_true (by kernel_rfl)) k0 bel lt0) (trodAll_cons_mk (shut_int u8B w1) (trodAll_cons_mk (shut_int u8B w2) trodAll_mk0))), rfl, bel.frame _, fun h => by cases h⟩
theorem named : Tryz.pinned.checked.prog.funcNamed Rows.pairChainsRow.func = some 8 := by kernel_rfl
theorem closed : joinedFacts Tryz.pinned.checked.prog 8 Tryz.f8 Rows.pairChainsSpec Rows.pairChainsRow = true := by kernel_rfl
theorem over : Rows.pairChainsRow.holds Tryz.pinned (OpenSpec.ofChange Rows.pairChainsSpec) :=
 OpenClaim.holds_of_wide 8 Tryz.f8 rfl rfl rfl rfl rfl rfl rfl ⟨rfl, rfl, rfl, rfl, rfl⟩ rfl rfl rfl rfl rfl named Tryz.func8 closed
  (of_decide_eq_true (by kernel_rfl)) (by unfold Func.isWrapper; first | (rw [if_pos (by decide +kernel)]; kernel_rfl) | (rw [if_neg (by decide +kernel)]; exact ⟨rfl, rfl⟩))
  (fun os started H enc _ => lifted os started H enc)
theorem proved : Rows.PairChainsSaid := over
#print axioms proved
end Go.Proofs.YtgjkgkgieeoalaaGreat.pairChainsDone
