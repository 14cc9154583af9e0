/- Parts of the proof, joined: each theorem says what it shows. -/
import Derived.Test.YtgjkgkgieeoalaaGreatF01
import Derived.Test.YtgjkgkgieeoalaaGreatF18
set_option linter.unusedVariables false
set_option linter.unusedSimpArgs false
set_option maxHeartbeats 24000000
set_option maxRecDepth 100000
namespace Go.Proofs.YtgjkgkgieeoalaaGreat
open Go.RowKit
theorem Split_1 {b0 g : Nat} {o : Int} {A : Option Addr} {c : Nat} {ts : List TermD} {w : World} (hk : Bk w g 3 #[.int .i64 o]) (h : RPol w b0 A ts) (hc : ts.length ≤ c) (hs : shortP ts) :
    Calls Tryz.prog 242 #[.slice A ts.length c, .pointer (some ⟨g, 0, none⟩)] w fun e w' => e = .returned (.bool (!polMay o ts)) ∧ Below w.heap.size w w' := by
 have C1 := aa (poly_May b0 o A c ts w h hc hs)
 have q0 := hk.one
 clear hk h hs hc
 go_enter Tryz.func242, Tryz.ntmps242
 go_wp2_with fail
 refine C1.out.mono ?_
 rintro e w4 ⟨rfl, hb⟩
 have HB := aa hb
 clear hb q0
 go_wp2_with fail
 go_ret
 exact ⟨rfl, HB.out⟩
def anyBad (o : Int) (ps : List (List TermD)) : Bool := ps.any fun t => !polMay o t
theorem index_bad (b0 g : Nat) (o : Int) (A : Option Addr) (c : Nat) (ps : List (List TermD)) (w : World) (hk : Bk w g 3 #[.int .i64 o]) (h : RPols w b0 A ps) (hn : ps.length ≤ c) (hs : shortPs ps) :
    Calls Tryz.prog 187 #[.slice A ps.length c, .func (.func 242) #[] #[.pointer (some ⟨g, 0, none⟩)]] w fun e w' => ∃ i : Int, e = .returned (.int .i64 i) ∧ decide (0 ≤ i) = anyBad o ps ∧ Below w.heap.size w w' := by
 have HK := aa hk
 have H := aa h
 have HS := aa hs
 have hl := hs.1
 clear h hs hk
 go_enter Tryz.func187, Tryz.ntmps187
 go_wp2_with fail
 go_loopw [8] (fun v wr => ∃ i : Nat, v = .int .i64 i ∧ i ≤ ps.length ∧ Hd (anyBad o (ps.take i) = false) ∧ Hd (Below w.heap.size w wr)) (fun v _ => ps.length - (intOf v).toNat)
 case atStart => exact ⟨0, rfl, by omega, ⟨rfl⟩, ⟨.refl _ _⟩⟩
 case round =>
  obtain ⟨i, rfl, hi, ht, hb⟩ := hrel
  by_cases hlt : i < ps.length
  ·obtain ⟨ad, a, pc, t, rfl, hab, hti, hcell, hpc, hrt⟩ := (H.out.up hb.out).get hlt
   have i2 : (i : Int) < ps.length := by omega
   have i3 : (0 : Int) ≤ i := by omega
   have hst := HS.out.2 t (List.mem_of_getElem? hti.out)
   have CB := aa (Split_1 (HK.out.up hb.out) hrt.out hpc hst)
   have hsn : Hd (anyBad o (ps.take (i + 1)) = (anyBad o (ps.take i) || !polMay o t)) := ⟨by
    rw [List.take_add_one, hti.out, anyBad, List.any_append]; simp [anyBad]⟩
   clear hst hrt
   cases h8 : polMay o t
   ·rw [h8] at CB hsn
    clear h8
    go_wp2_with fail
    refine CB.out.mono ?_
    rintro e w' ⟨rfl, hb2⟩
    have HB := aa (hb.out.trans (hb2.mono hb.out.size))
    clear hb2 hcell
    go_wp2_with fail
    go_ret
    refine ⟨_, rfl, ?_, HB.out⟩
    have h1 := hsn.out
    rw [Bool.not_false, Bool.or_true] at h1
    rw [decide_eq_true (by omega : (0 : Int) ≤ i)]
    conv => rhs; rw [← List.take_append_drop (i + 1) ps]
    rw [anyBad, List.any_append, show (List.take (i + 1) ps).any (fun t => !polMay o t) = true from h1]; rfl
   ·rw [h8] at CB hsn
    clear h8
    go_wp2_with fail
    refine CB.out.mono ?_
    rintro e w' ⟨rfl, hb2⟩
    have HB := aa (hb.out.trans (hb2.mono hb.out.size))
    clear hb2 hcell
    go_wp2_with fail
    go_roundw
    case measure => first | (simp [intOf]; done) | (simp [intOf]; omega)
    case rel => exact ⟨i + 1, by go_num, by omega, ⟨by rw [hsn.out, ht.out]; rfl⟩, HB⟩
  ·have hie : i = ps.length := by omega
   subst hie
   go_wp2_with fail
   go_ret
   refine ⟨_, rfl, ?_, hb.out⟩
   have := ht.out
   rw [List.take_length] at this
   rw [this]; rfl
theorem contains_bad (b0 g : Nat) (o : Int) (A : Option Addr) (c : Nat) (ps : List (List TermD)) (w : World) (hk : Bk w g 3 #[.int .i64 o]) (h : RPols w b0 A ps) (hn : ps.length ≤ c) (hs : shortPs ps) :
    Calls Tryz.prog 110 #[.slice A ps.length c, .func (.func 242) #[] #[.pointer (some ⟨g, 0, none⟩)]] w fun e w' => e = .returned (.bool (anyBad o ps)) ∧ Below w.heap.size w w' := by
 have hi := aa (index_bad b0 g o A c ps w hk h hn hs)
 clear h hs hk
 go_enter Tryz.func110, Tryz.ntmps110
 go_wp2_with fail
 refine hi.out.mono ?_
 rintro e w' ⟨i, rfl, hib, hb⟩
 have HIB := aa hib
 have HB := aa hb
 clear hib hb
 go_wp2_with fail
 go_ret
 exact ⟨retBool HIB.out, HB.out⟩
end Go.Proofs.YtgjkgkgieeoalaaGreat
