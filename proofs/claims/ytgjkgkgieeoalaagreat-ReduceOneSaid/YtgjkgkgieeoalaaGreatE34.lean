/- Parts of the proof, joined: each theorem says what it shows. -/
import Derived.Test.YtgjkgkgieeoalaaGreatE01
import Derived.Test.YtgjkgkgieeoalaaGreatE30
import Derived.Test.YtgjkgkgieeoalaaGreatE27
import Derived.Test.YtgjkgkgieeoalaaGreatE31
set_option linter.unusedVariables false
set_option linter.unusedSimpArgs false
set_option maxHeartbeats 24000000
set_option maxRecDepth 100000
namespace Go.Proofs.YtgjkgkgieeoalaaGreat
def crossAll (o : Int) (b : List (List TermD)) : List (Int × Int) → Int × Bool
 | [] => (0, true)
 | x :: r =>
   if (crossD o (b.getD x.1.toNat []) (b.getD x.2.toNat [])).1 ≠ 0 then ((crossD o (b.getD x.1.toNat []) (b.getD x.2.toNat [])).1, false) else
   if (splitD o (crossD o (b.getD x.1.toNat []) (b.getD x.2.toNat [])).2 b).1 ≠ 0 then ((splitD o (crossD o (b.getD x.1.toNat []) (b.getD x.2.toNat [])).2 b).1, false) else
   if (splitD o (crossD o (b.getD x.1.toNat []) (b.getD x.2.toNat [])).2 b).2.2.length ≠ 0 then (0, false) else crossAll o b r
def groebD (o : Int) (l : List (List TermD)) : Int × Bool := if basisD o l = false then (1, false) else crossAll o (fullD l) (allP (fullD l).length)
theorem monic_sm {o : Int} {P : List TermD} (hP : SmP o P) (hne : P ≠ []) : (polMonic o P).1 = 0 := by
 cases P with
 | nil => exact absurd rfl hne
 | cons t p =>
   obtain ⟨u, m, _, h⟩ := monic_law hP
   rw [h.monic]
theorem groeb_one {o : Int} {P : List TermD} (hP : SmP o P) : groebD o [P] = (0, true) := by
 have hb := basis_of hP.cp.ord (l := [P]) (fun p hp => by
  simp only [List.mem_cons, List.not_mem_nil, or_false] at hp
  rw [hp]; exact hP.cp) (by simp)
 have hl : (fullD [P]).length ≤ 1 := ah (List.length_filter_le _ _) (by simp)
 unfold groebD
 rw [if_neg hb]
 have h1 := allP_len (k := (fullD [P]).length) (by omega)
 have h2 : (allP (fullD [P]).length) = [] := by
  refine List.eq_nil_of_length_eq_zero ?_
  rcases (show (fullD [P]).length = 0 ∨ (fullD [P]).length = 1 by omega) with e | e <;> (rw [e] at h1 ⊢; omega)
 rw [h2]
 rfl
theorem red_none {o : Int} (ho : oOk o) : redD o [[]] = (0, []) := by
 unfold redD
 rw [if_neg (basis_of ho (l := [[]]) (fun p hp => by
  simp only [List.mem_cons, List.not_mem_nil, or_false] at hp
  rw [hp]; exact CP.nil ho) (by simp))]
 rfl
theorem red_single {o : Int} {P : List TermD} (hP : SmP o P) (hne : P ≠ []) : redD o [P] = (0, [(polMonic o P).2]) := by
 have h0 := monic_sm hP hne
 obtain ⟨mz, _⟩ := monic_ok ⟨hP.cp, hne⟩ h0
 have hb := basis_of hP.cp.ord (l := [P]) (fun p hp => by
  simp only [List.mem_cons, List.not_mem_nil, or_false] at hp
  rw [hp]; exact hP.cp) (by simp)
 have hf : fullD [P] = [P] := by
  unfold fullD
  rw [List.filter_eq_self]
  intro p hp
  simp only [List.mem_cons, List.not_mem_nil, or_false] at hp
  rw [hp]
  simpa using hne
 have hm : monicsD o [P] = (0, [(polMonic o P).2]) := by
  unfold monicsD monicsD
  rw [if_neg (by simpa using h0), if_neg (by simp)]
 generalize (polMonic o P).2 = M at mz hm ⊢
 unfold redD
 rw [if_neg hb, hf, hm, if_neg (by simp)]
 have hi : interD [] [M] = [M] := by
  unfold interD
  rw [if_neg (by unfold goesD; simp)]
  rfl
 have hs : splitD o M [] = (0, [], M) := splitD_rest mz.pz.cp (fun b hb => by cases hb) (by simp) fun t _ => rfl
 show restsD o [] (interD [] [M]) = _
 rw [hi]
 unfold restsD restsD
 simp only [List.nil_append]
 rw [hs, if_neg (by simp)]
end Go.Proofs.YtgjkgkgieeoalaaGreat
