/- Parts of the proof, joined: each theorem says what it shows. -/
import Derived.Test.YtgjkgkgieeoalaaGreatF01
import Derived.Test.YtgjkgkgieeoalaaGreatF32
import Derived.Test.YtgjkgkgieeoalaaGreatF30
import Derived.Test.YtgjkgkgieeoalaaGreatF29
import Derived.Test.YtgjkgkgieeoalaaGreatF28
import Derived.Test.YtgjkgkgieeoalaaGreatF31
import Derived.Test.YtgjkgkgieeoalaaGreatF33
import Derived.Test.YtgjkgkgieeoalaaGreatF23
import Derived.Test.YtgjkgkgieeoalaaGreatF18
import Derived.Test.YtgjkgkgieeoalaaGreatF34
import Derived.Test.YtgjkgkgieeoalaaGreatF06
import Derived.Test.YtgjkgkgieeoalaaGreatF19
import Derived.Test.YtgjkgkgieeoalaaGreatF12
import Derived.Test.YtgjkgkgieeoalaaGreatF09
import Derived.Test.YtgjkgkgieeoalaaGreatF20
import Derived.Deep.Slices
import Derived.Deep.Strs
import Derived.OpenShut
import Derived.ChangeSlices
import Derived.ChangeSame
set_option linter.unusedVariables false
set_option linter.unusedSimpArgs false
set_option maxHeartbeats 24000000
set_option maxRecDepth 100000
namespace Go.Proofs.YtgjkgkgieeoalaaGreat
open Go.RowKit
theorem cp_short {o : Int} {p : List TermD} (h : CP o p) : shortP p := ⟨by have := h.len; omega, fun t ht => by
 obtain ⟨h1, h2, _⟩ := ratMay_of (h.canon.good t ht).c.may
 have := natMay_len h1
 have := natMay_len h2
 exact ⟨by omega, by omega⟩⟩
structure Rs (b0 base gb g cap : Nat) (o : Int) (w0 w : World) (S : List SV) (ps : List (List TermD)) : Prop where
 below : Below w0.heap.size w0 w
 bb : w0.heap.size ≤ base
 box : Bk w gb 3 #[.int .i64 o]
 row : RowP w b0 base g cap S ps
section
variable {b0 base gb g cap : Nat} {o : Int} {w0 w w' : World} {S S' : List SV} {ps : List (List TermD)}
theorem Rs.up (h : Rs b0 base gb g cap o w0 w S ps) (hb : Below w.heap.size w w') : Rs b0 base gb g cap o w0 w' S ps := ⟨goes h.below hb, h.bb, h.box.up hb, h.row.up hb⟩
theorem Rs.ne (h : Rs b0 base gb g cap o w0 w S ps) : gb ≠ g := by
 obtain ⟨cs, hk, _⟩ := h.row.row.bk
 exact Bk.ne_ h.box hk (by decide)
theorem Rs.set (h : Rs b0 base gb g cap o w0 w S ps) {j : Nat} (hj : j < ps.length) {a : Option Addr} {c : Nat} {p : List TermD} (hr : RPol w b0 a p) (hc : p.length ≤ c) (hne : p ≠ [] → ∀ ad, a = some ad → ad.block ≠ g) :
    Rs b0 base gb g cap o w0 (w.setCell ⟨g, j, none⟩ (.slice a p.length c)) (S.set j (a, p.length, c)) (ps.set j p) :=
 ⟨h.below.setCell (ah h.bb h.row.row.base) _, h.bb, h.box.far h.ne _, h.row.set hj hr hc hne⟩
end
theorem fr_ne {g B : Nat} {A : Option Addr} (h : Fr B A) (hg : g < B) : ∀ ad, A = some ad → ad.block ≠ g := fun ad e => by have := h ad e; omega
def lenV : Value → Nat
 | .slice _ n _ => n
 | _ => 0
def addR (done : List (List TermD)) (r : Int × List (List TermD)) : Int × List (List TermD) := if r.1 ≠ 0 then (r.1, []) else (0, done ++ r.2)
theorem addR_nil (r : Int × List (List TermD)) (h : r.1 ≠ 0 → r.2 = []) : addR [] r = r := by
 unfold addR
 split
 ·rename_i h1; exact Prod.ext rfl (h h1).symm
 ·rename_i h1; exact Prod.ext (by simpa using Eq.symm (Decidable.not_not.1 h1)) rfl
theorem monics_err {o : Int} {l : List (List TermD)} (h : (monicsD o l).1 ≠ 0) : (monicsD o l).2 = [] := by
 cases l with
 | nil => rfl
 | cons p l =>
   unfold monicsD at h ⊢
   split
   ·rfl
   ·split
    ·rfl
    ·rename_i h1 h2; rw [if_neg h1, if_neg h2] at h; exact absurd rfl h
theorem monics_step {o : Int} {done l : List (List TermD)} {p : List TermD} : addR done (monicsD o (p :: l)) = if (polMonic o p).1 ≠ 0 then ((polMonic o p).1, []) else addR (done ++ [(polMonic o p).2]) (monicsD o l) := by
 conv => lhs; unfold monicsD
 split
 ·rename_i h; unfold addR; rw [if_pos h]
 ·split
  ·rename_i h; unfold addR; rw [if_pos h, if_pos h]
  ·rename_i h; unfold addR; rw [if_neg (by simp), if_neg h]; simp
theorem getElem_app {done l : List (List TermD)} {p : List TermD} : (done ++ p :: l)[done.length]? = some p := by simp
theorem rests_cons (o : Int) (done todo : List (List TermD)) (p : List TermD) : restsD o done (p :: todo) = if (splitD o p (done ++ todo)).1 ≠ 0 then ((splitD o p (done ++ todo)).1, []) else restsD o (done ++ [(splitD o p (done ++ todo)).2.2]) todo := rfl
theorem inter_cons (kept rest : List (List TermD)) (p : List TermD) : interD kept (p :: rest) = if goesD kept rest p = true then interD kept rest else interD (kept ++ [p]) rest := rfl
theorem erase_app {done l : List (List TermD)} {p : List TermD} : (done ++ p :: l).eraseIdx done.length = done ++ l := by rw [List.eraseIdx_append_of_length_le (ae _)]; simp
theorem set_app {done l : List (List TermD)} {p q : List TermD} : (done ++ p :: l).set done.length q = done ++ [q] ++ l := by simp
theorem reduce_Reduced (b0 b off c : Nat) (o : Int) (ps : List (List TermD)) (w : World) (ho : oOk o) (hb0 : b0 ≤ w.heap.size) (h : RPols w b0 (some ⟨b, off, none⟩) ps) (hcp : ∀ p ∈ ps, CP o p) (hl : ps.length ≤ 12) :
    Calls Tryz.prog 37 #[.int .i64 o, .slice (some ⟨b, off, none⟩) ps.length c] w fun e w' => ∃ A' c' R E, e = .returned (.tuple #[.slice A' R.length c', .int .i64 E]) ∧ RedIs o ps E R ∧ R.length ≤ c' ∧
     RPols w' b0 A' R ∧ (E = 0 → ∃ g, A' = some ⟨g, 0, none⟩) ∧ Below w.heap.size w w' := by
 have hbs : basisD o ps = true := by simpa using basis_of ho hcp (by omega)
 have CB := aa (fun W (hB : Below w.heap.size w W) => reduce_basis b0 o (some ⟨b, off, none⟩) c ps W (h.up hB) (by omega) fun p hp => cp_short (hcp p hp))
 have CF := aa (fun W (hB : Below w.heap.size w W) => reduce_full b0 b off c ps W (ah hb0 hB.size) (h.up hB) (by omega))
 rw [hbs] at CB
 have HRD : Hd (redD o ps = if (monicsD o (fullD ps)).1 ≠ 0 then ((monicsD o (fullD ps)).1, []) else restsD o [] (interD [] (monicsD o (fullD ps)).2)) := ⟨by unfold redD; rw [if_neg (by rw [hbs]; simp)]⟩
 have HPZ := aa (full_pz hcp)
 have HO := aa ho
 have HFL : Hd ((fullD ps).length ≤ 12) := ⟨ah (List.length_filter_le _ _) hl⟩
 clear h hbs hcp
 go_enter Tryz.func37, Tryz.ntmps37
 go_upto_region 1 with (fail)
 refine wp_gen (fun W => Below w.heap.size w W ∧ Bk W w.heap.size 3 #[.int .i64 o]) ⟨(ag _ _).alloc (ae _) _, Bk.new_ _ _ _⟩ ?_
 intro W1 H1
 have HB1 := aa H1.out.1
 have K1 := aa H1.out.2
 have q0 := K1.out.one
 clear H1
 go_wp2_with fail
 refine (CB.out _ HB1.out).mono ?_
 rintro e w2 ⟨rfl, hb⟩
 have HB2 := aa (goes HB1.out hb)
 have K2 := aa (K1.out.up hb)
 clear hb CB q0 K1 HB1
 go_wp2_with fail
 refine (CF.out _ HB2.out).mono ?_
 rintro e w3 ⟨g, cap, S, rfl, hr, hb⟩
 have HS3 : Hd (Rs b0 w2.heap.size w.heap.size g cap o w w3 S (fullD ps)) := ⟨⟨goes HB2.out hb, HB2.out.size, K2.out.up hb, hr⟩⟩
 generalize w2.heap.size = base at HS3
 obtain ⟨M0, hM0⟩ : ∃ M0, fullD ps = M0 := ⟨_, rfl⟩
 rw [hM0] at HS3 HRD HPZ HFL ⊢
 clear hb hr CF HB2 K2 hM0
 have hl0 := HFL.out
 go_wp2_with fail
 go_loopw [26] (fun v26 wr => ∃ (i : Nat) (S : List SV) (done todo : List (List TermD)), v26 = .int .i64 i ∧ done.length = i ∧ done.length + todo.length = M0.length ∧ Hd (Rs b0 base w.heap.size g cap o w wr S (done ++ todo)) ∧ Hd (∀ p ∈ todo, Pz o p) ∧ Hd (monicsD o M0 = addR done (monicsD o todo))) (fun v _ => M0.length - (intOf v).toNat)
 case atStart => exact ⟨0, S, [], M0, rfl, rfl, by simp, HS3, HPZ, ⟨(addR_nil _ monics_err).symm⟩⟩
 case round =>
  have HPZ0 := HPZ
  clear HS3 HPZ
  obtain ⟨i, S, done, todo, rfl, hi, hlen, RS, HZ, HM⟩ := hrel
  cases todo with
  | cons p todo =>
    have hlt : i < M0.length := by simp at hlen; omega
    have i1 : (i : Int) < M0.length := by omega
    have i3 : (0 : Int) ≤ i := by omega
    obtain ⟨a, pc, p', hp', hcell, hpc, hrp⟩ := RS.out.row.get (j := i) (by simp; omega)
    have e : p' = p := by
     have := hp'.out
     rw [← hi, getElem_app] at this
     injection this with this
     exact this.symm
    subst e
    have PZ := aa (HZ.out p' (by simp))
    have q0 := RS.out.box.one
    have CM := aa (poly_MonicF b0 o a pc p' wr (ah hb0 RS.out.below.size) hrp.out hpc (cp_short PZ.out.cp))
    have HMS := aa (HM.out.trans monics_step)
    obtain ⟨E, hE⟩ : ∃ E, polMonic o p' = E := ⟨_, rfl⟩
    rw [hE] at CM HMS
    have HN := aa (af hi hlen)
    clear hp' hrp hE HM hlen hi
    go_wp2_with fail
    refine CM.out.mono ?_
    rintro e w4 ⟨A4, c4, rfl, hc4, hr4, hb4, hf4⟩
    have RS4 := aa (RS.out.up hb4)
    have hfn := fr_ne hf4 RS.out.row.row.lt
    have HR4 := aa hr4
    have HC4 := aa hc4
    have HN4 := aa hfn
    clear hb4 hr4 hf4 hc4 hfn CM hcell q0 RS
    by_cases h0 : E.1 = 0
    case neg =>
     have e1 : (E.1 != 0) = true := by rw [bne_iff_ne]; exact h0
     have HE : Hd (RedIs o ps E.1 []) := ⟨by
      have h1 := HMS.out
      rw [if_pos h0] at h1
      refine ⟨?_, fun _ => rfl, fun h => absurd h h0⟩
      rw [HRD.out, h1, if_pos h0]⟩
     have H0 := aa h0
     clear h0 HMS HN
     go_wp2_with fail
     go_ret2
     exact ⟨none, 0, [], E.1, rfl, HE.out, ae _, RPols.nil _ _ _, fun h => absurd h H0.out, RS4.out.below⟩
    have e1 : (E.1 != 0) = false := by rw [bne_eq_false_iff_eq]; exact h0
    have HMS2 := aa (HMS.out.trans (if_neg (by simpa using h0)))
    obtain ⟨a', pc', p2, -, hcell, -, -⟩ := RS4.out.row.get (j := i) (by have := HN.out.1; simp; omega)
    have fz := fun j => RS4.out.row.row.froz j
    clear h0 HMS
    have RS5 : Hd (Rs b0 base w.heap.size g cap o w (w4.setCell ⟨g, i, none⟩ (.slice A4 E.2.length c4)) (S.set i (A4, E.2.length, c4)) (done ++ [E.2] ++ todo)) := ⟨by
     have := RS4.out.set (j := i) (by have := HN.out.1; simp; omega) HR4.out HC4.out (fun _ => HN4.out)
     rw [← HN.out.1, set_app] at this
     rw [← HN.out.1]
     exact this⟩
    go_wp2_with fail
    exact ⟨⟨i + 1, _, done ++ [E.2], todo, by go_num, by simp [HN.out.1], by have := HN.out.2; simp at this ⊢; omega, RS5, ⟨fun p hp => HZ.out p (by simp [hp])⟩, HMS2⟩, by simp [intOf]; omega⟩
  | nil =>
    have hie : i = M0.length := by simp at hlen; omega
    subst hie
    have i1 : ¬ (M0.length : Int) < M0.length := by omega
    have hd : monicsD o M0 = (0, done) := by
     have := HM.out
     unfold addR at this
     simpa [monicsD] using this
    have HL1 : Hd (done.length = M0.length) := ⟨hi⟩
    have hmz := (monics_ok HPZ0.out (by rw [hd])).1
    rw [hd] at hmz
    have HZ1 : Hd (∀ p ∈ done, Mz o p) := ⟨hmz⟩
    have HRD1 : Hd (redD o ps = restsD o [] (interD [] done)) := ⟨by rw [HRD.out, hd, if_neg (by simp)]⟩
    have RS1 := RS
    rw [List.append_nil] at RS1
    clear hmz hd HM HRD RS hlen hi HZ
    have hd12 : done.length ≤ 12 := by have := HL1.out; have := HFL.out; omega
    rw [← HL1.out]
    go_wp2_with fail
    go_loopw [1, 10] (fun v1 v10 wr => ∃ (g cap : Nat) (S : List SV) (kept rest : List (List TermD)), v1 = .slice (some ⟨g, 0, none⟩) (kept ++ rest).length cap ∧ v10 = .int .i64 kept.length ∧ (kept ++ rest).length ≤ 12 ∧ Hd (∃ base, Rs b0 base w.heap.size g cap o w wr S (kept ++ rest)) ∧ Hd (∀ p ∈ kept ++ rest, Mz o p) ∧ Hd (interD kept rest = interD [] done)) (fun v1 v10 _ => lenV v1 - (intOf v10).toNat)
    case atStart => exact ⟨g, cap, S, [], done, rfl, rfl, hd12, ⟨base, RS1.out⟩, HZ1, ⟨rfl⟩⟩
    case round =>
     clear RS1
     obtain ⟨g, cap, S, kept, rest, rfl, rfl, h12, RS2, HZ2, HI2⟩ := hrel
     obtain ⟨base, RS2⟩ := RS2.out
     have RS2 := aa RS2
     cases rest with
     | cons p rest =>
       obtain ⟨n, hn⟩ : ∃ n, (kept ++ p :: rest).length = n := ⟨_, rfl⟩
       obtain ⟨i, hi⟩ : ∃ i, kept.length = i := ⟨_, rfl⟩
       have hlt : i < n := by rw [← hn, ← hi]; simp
       have i1 : (i : Int) < n := by omega
       have i3 : (0 : Int) ≤ i := by omega
       obtain ⟨a, pc, p', hp', hcell, hpc, hrp⟩ := RS2.out.row.get (j := i) (by omega)
       have e : p' = p := by
        have := hp'.out
        rw [← hi, getElem_app] at this
        injection this with this
        exact this.symm
       subst e
       have MZ := aa (HZ2.out p' (by simp))
       obtain ⟨ad, rfl, -, p0, p1, p2, p3⟩ := hrp.out.head MZ.out.pz.ne
       have hpos : (0 : Int) < p'.length := by have := List.length_pos_iff.2 MZ.out.pz.ne; omega
       have HN := aa (af hn hi)
       rw [hn] at h12 ⊢
       rw [hi]
       clear hp' hrp hn hi
       go_upto_region 17 with (fail)
       refine wp_gen (fun W => Bo2 wr.heap.size wr.heap.size (wr.heap.size + 1) wr W 66 159 #[.int .i64 (hdM p').x0, .int .i64 (hdM p').x1, .int .i64 (hdM p').x2, .int .i64 (hdM p').x3] #[.func (.func 107) #[] #[.pointer (some ⟨wr.heap.size, 0, none⟩)]]) (Bo2.mk2 wr _ _ _ _) ?_
       intro W1 BX1
       have RS3 := aa (RS2.out.up BX1.out.below)
       have f0 := Wd.cell BX1.out.k2.one
       clear p0 p1 p2 p3 hcell RS2
       have il : (i : Int) ≤ n := by omega
       have ic : i ≤ cap := by have := RS3.out.row.le; have := HN.out.1; omega
       have ic' : (i : Int) ≤ cap := by omega
       have gd : ∀ q, kept.any (fun x => dvd x p') = q → (kept.any fun x => (monDiv (hdM p') (hdM x)).1) = q := fun q h => h
       have CA := aa (fun nn : Wd W1 => polys_Contains 107 #[.pointer (some ⟨wr.heap.size, 0, none⟩)] (enters_of Tryz.func107 (by kernel_rfl) rfl) b0 (fun x => dvd x p') (some ⟨g, 0, none⟩) cap kept nn.w
        (by have := (RS3.out.up nn.lo).row.part (i := 0) (n := kept.length) (by simp); simpa using this) (by have := HN.out.2; omega)
        (fun W' a pc x hB hx hr hpc => Reduced_1 (m := hdM p') ((BX1.out.k1.up nn.lo).up hB) hr (HZ2.out x (by simp [hx])).pz.ne hpc))
       have CC := aa (fun (nn : Wd W1) (A : Option Addr) (c : Nat) (hA : rest ≠ [] → A = some ⟨g, i + 1, none⟩) => polys_Contains 109 #[.pointer (some ⟨wr.heap.size + 1, 0, none⟩), .pointer (some ⟨wr.heap.size, 0, none⟩)] (enters_of Tryz.func109 (by kernel_rfl) rfl) b0 (fun x => dvd x p' && !decide (hdM x = hdM p')) A c rest nn.w
        (by
         by_cases hr : rest = []
         ·rw [hr]; exact RPols.nil _ _ _
         ·rw [hA hr]
          have := (RS3.out.up nn.lo).row.part (i := i + 1) (n := rest.length) (by have := HN.out.2; simp; omega)
          rw [← HN.out.2] at this
          rw [← HN.out.2]
          simpa using this) (by have := HN.out.1; simp at this; omega)
        (fun W' a pc x hB hx hr hpc => Reduced_2 (m := hdM p') ((BX1.out.k1.up nn.lo).up hB) ((BX1.out.k2.up nn.lo).up hB) hr (HZ2.out x (by simp [hx])).pz.ne hpc))
       obtain ⟨u, hu⟩ : ∃ u, kept.any (fun x => dvd x p') = u := ⟨_, rfl⟩
       obtain ⟨v, hv⟩ : ∃ v, rest.any (fun x => dvd x p' && !decide (hdM x = hdM p')) = v := ⟨_, rfl⟩
       rw [hu, HN.out.2] at CA
       rw [hv] at CC
       have HG : Hd (goesD kept rest p' = (u || v)) := ⟨by unfold goesD; rw [hu, hv]⟩
       obtain ⟨r, hr⟩ : ∃ r, rest.length = r := ⟨_, rfl⟩
       have HRL := aa hr
       rw [hr] at CC
       obtain rfl : n = i + 1 + r := by have h1 := HN.out.1; have h2 := HN.out.2; simp at h1; omega
       clear gd hu hv hr
       have ic2 : i + 1 ≤ cap := by have := RS3.out.row.le; have := HN.out.1; omega
       have hA : rest ≠ [] → cap ≠ i + 1 := fun hr e => by
        have h1 := RS3.out.row.le
        rw [HN.out.1] at h1
        have h2 := HRL.out
        have := List.length_pos_iff.2 hr
        omega
       cases u with
       | true =>
         refine wp_region_wd W1 (by kernel_rfl) (by kernel_rfl) (ag _ _).drew ?_
         repeat (go_big_quiet_step ((go_at_call 110; exact Wd.call (CA.out _))))
         refine wd_nil fun nq => ?_
         have RS4 := aa (RS3.out.up nq.lo)
         have CO := aa (reduce_others b0 g 0 cap i (kept ++ p' :: rest) nq.w (ah hb0 RS4.out.below.size) RS4.out.row.all (by have := HN.out.1; omega) (by have := HN.out.1; omega))
         rw [HN.out.1, ← HN.out.2, erase_app, HN.out.2] at CO
         have HI3 : Hd (interD kept rest = interD [] done) := ⟨by
          have h1 := HI2.out
          rw [inter_cons] at h1
          rwa [if_pos (by rw [HG.out]; rfl)] at h1⟩
         clear CA CC HI2 HG RS3
         go_wp2_with fail
         refine CO.out.mono ?_
         rintro e w5 ⟨g5, cap5, S5, rfl, hr5, hb5⟩
         have RS5 : Hd (∃ base, Rs b0 base w.heap.size g5 cap5 o w w5 S5 (kept ++ rest)) := ⟨_, goes RS4.out.below hb5, RS4.out.below.size, RS4.out.box.up hb5, hr5⟩
         have HZ3 : Hd (∀ p ∈ kept ++ rest, Mz o p) := ⟨fun p hp => HZ2.out p (by simp only [List.mem_append, List.mem_cons] at hp ⊢; rcases hp with hp | hp <;> simp [hp])⟩
         have HL5 : Hd ((kept ++ rest).length = i + r) := ⟨by rw [List.length_append, HN.out.2, HRL.out]⟩
         clear hr5 hb5 CO HZ2
         go_wp2_with fail
         exact ⟨⟨g5, cap5, S5, kept, rest, by rw [List.length_append], by rw [HN.out.2], by have := HL5.out; omega, RS5, HZ3, HI3⟩, by have h1 := HN.out.2; have h2 := HRL.out; simp only [lenV, intOf, List.length_append]; omega⟩
       | false =>
         refine wp_region_wd W1 (by kernel_rfl) (by kernel_rfl) (ag _ _).drew ?_
         repeat (go_big_quiet_step ((go_at_call 110; first | with_reducible exact Wd.call (CA.out _) | exact Wd.call (CC.out _ _ _ (fun h => if_neg (hA h))))))
         refine wd_nil fun nq => ?_
         generalize (if cap = i + 1 then (some ⟨g, 0, none⟩ : Option Addr) else some ⟨g, i + 1, none⟩) = AA
         cases v with
         | true =>
           have RS4 := aa (RS3.out.up nq.lo)
           have CO := aa (reduce_others b0 g 0 cap i (kept ++ p' :: rest) nq.w (ah hb0 RS4.out.below.size) RS4.out.row.all (by have := HN.out.1; omega) (by have := HN.out.1; omega))
           rw [HN.out.1, ← HN.out.2, erase_app, HN.out.2] at CO
           have HI3 : Hd (interD kept rest = interD [] done) := ⟨by
            have h1 := HI2.out
            rw [inter_cons] at h1
            rwa [if_pos (by rw [HG.out]; rfl)] at h1⟩
           clear CA CC HI2 HG RS3
           go_wp2_with fail
           refine CO.out.mono ?_
           rintro e w5 ⟨g5, cap5, S5, rfl, hr5, hb5⟩
           have RS5 : Hd (∃ base, Rs b0 base w.heap.size g5 cap5 o w w5 S5 (kept ++ rest)) := ⟨_, goes RS4.out.below hb5, RS4.out.below.size, RS4.out.box.up hb5, hr5⟩
           have HZ3 : Hd (∀ p ∈ kept ++ rest, Mz o p) := ⟨fun p hp => HZ2.out p (by simp only [List.mem_append, List.mem_cons] at hp ⊢; rcases hp with hp | hp <;> simp [hp])⟩
           have HL5 : Hd ((kept ++ rest).length = i + r) := ⟨by rw [List.length_append, HN.out.2, HRL.out]⟩
           clear hr5 hb5 CO HZ2
           go_wp2_with fail
           exact ⟨⟨g5, cap5, S5, kept, rest, by rw [List.length_append], by rw [HN.out.2], by have := HL5.out; omega, RS5, HZ3, HI3⟩, by have h1 := HN.out.2; have h2 := HRL.out; simp only [lenV, intOf, List.length_append]; omega⟩
         | false =>
           have RS4 := aa (RS3.out.up nq.lo)
           have HI3 : Hd (interD (kept ++ [p']) rest = interD [] done) := ⟨by
            have h1 := HI2.out
            rw [inter_cons] at h1
            rwa [if_neg (by rw [HG.out]; simp)] at h1⟩
           have ea : kept ++ [p'] ++ rest = kept ++ p' :: rest := by simp
           have RS5 : Hd (∃ base, Rs b0 base w.heap.size g cap o w nq.w S (kept ++ [p'] ++ rest)) := ⟨_, by rw [ea]; exact RS4.out⟩
           have HZ3 : Hd (∀ p ∈ kept ++ [p'] ++ rest, Mz o p) := ⟨by rw [ea]; exact HZ2.out⟩
           have HL5 : Hd ((kept ++ [p'] ++ rest).length = i + 1 + r) := ⟨by rw [ea]; exact HN.out.1⟩
           clear CA CC HI2 HG RS3 ea RS4 HZ2
           go_wp2_with fail
           exact ⟨⟨g, cap, S, kept ++ [p'], rest, by rw [HL5.out], by rw [List.length_append, HN.out.2]; go_num, by rw [HL5.out]; omega, RS5, HZ3, HI3⟩, by simp only [lenV, intOf]; omega⟩
     | nil =>
       rw [List.append_nil] at h12 RS2 HZ2 ⊢
       have i1 : ¬ (kept.length : Int) < kept.length := by omega
       have hF : interD [] done = kept := HI2.out.symm
       have HND : Hd (Nd kept) := ⟨by
        have h1 : ∀ p ∈ done, Pz o p := fun p hp => (HZ1.out p hp).pz
        have := (inter_nd h1).1
        rwa [hF] at this⟩
       rw [hF] at HRD1
       clear HI2 hF
       go_wp2_with fail
       go_loopw [78] (fun v78 wr => ∃ (i : Nat) (S : List SV) (done todo : List (List TermD)), v78 = .int .i64 i ∧ done.length = i ∧ done.length + todo.length = kept.length ∧ Hd (Rs b0 base w.heap.size g cap o w wr S (done ++ todo)) ∧ Hd (∀ p ∈ done ++ todo, CP o p) ∧ Hd (restsD o [] kept = restsD o done todo)) (fun v _ => kept.length - (intOf v).toNat)
       case atStart => exact ⟨0, S, [], kept, rfl, rfl, by simp, RS2, ⟨fun p hp => (HZ2.out p hp).pz.cp⟩, ⟨rfl⟩⟩
       case round =>
        clear RS2
        obtain ⟨i, S, done, todo, rfl, hi, hlen, RS, HC, HM⟩ := hrel
        cases todo with
        | cons p todo =>
          have hlt : i < kept.length := by simp at hlen; omega
          have i1 : (i : Int) < kept.length := by omega
          have i3 : (0 : Int) ≤ i := by omega
          obtain ⟨a, pc, p', hp', hcell, hpc, hrp⟩ := RS.out.row.get (j := i) (by simp; omega)
          have e : p' = p := by
           have := hp'.out
           rw [← hi, getElem_app] at this
           injection this with this
           exact this.symm
          subst e
          have q0 := RS.out.box.one
          have hl2 : (done ++ p' :: todo).length = kept.length := by simp at hlen ⊢; omega
          have CO := aa (fun W (hB : Below wr.heap.size wr W) => reduce_others b0 g 0 cap i (done ++ p' :: todo) W (ah hb0 (goes RS.out.below hB).size) (RS.out.up hB).row.all (by omega) (by omega))
          rw [hl2, ← hi, erase_app, hi] at CO
          have HCP := aa (HC.out p' (by simp))
          have HCT : Hd (∀ q ∈ done ++ todo, CP o q) := ⟨fun q hq => HC.out q (by simp only [List.mem_append, List.mem_cons] at hq ⊢; rcases hq with hq | hq <;> simp [hq])⟩
          have CR := aa (fun W g5 cap5 S5 bs (hB : Below wr.heap.size wr W) (hr5 : RowP W b0 bs g5 cap5 S5 (done ++ todo)) => div_RestF b0 o a (some ⟨g5, 0, none⟩) pc cap5 p' (done ++ todo) W (ah hb0 (goes RS.out.below hB).size) (hrp.out.up hB) hpc (cp_short HCP.out) hr5.all hr5.le ⟨by simp at hlen ⊢; omega, fun q hq => cp_short (HCT.out q hq)⟩)
          have HMS := aa (HM.out.trans (rests_cons _ _ _ _))
          have HGD := aa (fun h0 => (splitD_good (p := p') (l := done ++ todo) HCP.out HCT.out h0))
          obtain ⟨E, hE⟩ : ∃ E, splitD o p' (done ++ todo) = E := ⟨_, rfl⟩
          rw [hE] at CR HMS HGD
          have HN := aa (af hi hlen)
          have SO := aa (fun W (hB : Below wr.heap.size wr W) => af (aa hB) (cell_up q0 hB))
          clear hp' hrp hE HM hlen hi hl2 HC
          go_upto_region 23 with (fail)
          clear hcell
          go_region_held3 (fun W => Hd (Below wr.heap.size wr W) ∧ W.cell? ⟨w.heap.size, 0, none⟩ = some (.int .i64 o))
           (first
            | with_reducible exact SO.out _ (.refl _ _)
            | with_reducible exact SO.out _ (ag _ _).drew
            | with_reducible exact SO.out _ hB5
            | with_reducible exact SO.out _ hB6
            | fail)
           (first
            | (go_at_call 111; with_reducible refine (CO.out wr.drew (ag _ _).drew).mono ?_; rintro e w5 ⟨g5, cap5, S5, rfl, hr5, hb5⟩
               have hB5 : Below wr.heap.size wr w5 := (ag wr.heap.size wr).drew.trans hb5
               have CR5 := aa (CR.out w5 g5 cap5 S5 _ hB5 hr5)
               have hg5 := (RS.out.up hB5).row.row.lt
               rw [List.length_append] at CR5)
            | (go_at_call 112; with_reducible refine CR5.out.mono ?_; rintro e w6 ⟨R6, rc6, rfl, hrc6, hR6, hb6, hf6⟩
               have hB6 : Below wr.heap.size wr w6 := goes hB5 hb6))
          all_goals
           have RS6 := aa (RS.out.up hB6)
           have HR6 := aa hR6
           have HC6 := aa hrc6
           have HN6 := aa (fr_ne hf6 hg5)
           clear hb5 hr5 hb6 hR6 hrc6 hf6 hg5 CR5 CR CO SO q0 RS hB5 hB6
           by_cases h0 : E.1 = 0
           case neg =>
            have e1 : (E.1 != 0) = true := by rw [bne_iff_ne]; exact h0
            have HE : Hd (RedIs o ps E.1 []) := ⟨by
             have h1 := HMS.out
             rw [if_pos h0] at h1
             exact ⟨by rw [HRD1.out, h1], fun _ => rfl, fun h => absurd h h0⟩⟩
            have H0 := aa h0
            clear h0 HMS HN HGD
            go_wp2_with fail
            go_ret2
            exact ⟨none, 0, [], E.1, rfl, HE.out, ae _, RPols.nil _ _ _, fun h => absurd h H0.out, RS6.out.below⟩
           have e1 : (E.1 != 0) = false := by rw [bne_eq_false_iff_eq]; exact h0
           have HMS2 := aa (HMS.out.trans (if_neg (by simpa using h0)))
           have HC7 : Hd (∀ p ∈ done ++ [E.2.2] ++ todo, CP o p) := ⟨fun p hp => by
            obtain ⟨qs, r, er, D⟩ := HGD.out h0
            simp only [List.mem_append, List.mem_singleton] at hp
            rcases hp with (hp | hp) | hp
            ·exact HCT.out p (by simp [hp])
            ·rw [hp, er]; exact D.cr
            ·exact HCT.out p (by simp [hp])⟩
           obtain ⟨a', pc', p2, -, hcell, -, -⟩ := RS6.out.row.get (j := i) (by have := HN.out.1; simp; omega)
           have fz := fun j => RS6.out.row.row.froz j
           have RS7 : Hd (Rs b0 base w.heap.size g cap o w (w6.setCell ⟨g, i, none⟩ (.slice R6 E.2.2.length rc6)) (S.set i (R6, E.2.2.length, rc6)) (done ++ [E.2.2] ++ todo)) := ⟨by
            have := RS6.out.set (j := i) (by have := HN.out.1; simp; omega) HR6.out HC6.out (fun _ => HN6.out)
            rw [← HN.out.1, set_app] at this
            rw [← HN.out.1]
            exact this⟩
           clear h0 HMS HGD HCT HCP
           go_wp2_with fail
           go_roundw
           case measure => first | (simp [intOf]; done) | (simp [intOf]; omega)
           case rel => exact ⟨i + 1, _, done ++ [E.2.2], todo, by go_num, by simp [HN.out.1], by have := HN.out.2; simp at this ⊢; omega, RS7, HC7, HMS2⟩
        | nil =>
          have hie : i = kept.length := by simp at hlen; omega
          subst hie
          have i1 : ¬ (kept.length : Int) < kept.length := by omega
          rw [List.append_nil] at RS HC
          have hd : restsD o [] kept = (0, done) := HM.out
          have HRD2 : Hd (redD o ps = (0, done)) := ⟨by rw [HRD1.out, hd]⟩
          have HPZ2 : Hd (∀ p ∈ done, Pz o p) := ⟨fun p hp => by
           have := rests_ok (o := o) kept [] (fun q hq => (HZ2.out q (by simpa using hq)).pz) (by simpa using HND.out) (fun r hr => by cases hr) (by rw [hd])
           rw [hd] at this
           exact (this.2 p hp).1⟩
          have CT := aa (sort_polys o HO.out b0 base g w.heap.size cap S done wr RS.out.row HPZ2.out (by omega) RS.out.box.one RS.out.ne)
          have HL3 : Hd (done.length = kept.length) := ⟨hi⟩
          rw [hi] at CT
          clear hd HM hlen hi HC HRD1 HND HZ2
          go_wp2_with fail
          refine CT.out.mono ?_
          rintro e w7 ⟨rfl, S7, ps7, hp7, hs7, hr7, w8, hg8, hb8⟩
          have HB7 := aa (goes (RS.out.below.grown hg8 RS.out.below.size fun k e => by injection e with e; subst e; exact ah RS.out.bb RS.out.row.row.base) hb8)
          have HE : Hd (RedIs o ps 0 ps7) := ⟨by rw [HRD2.out], fun h => absurd rfl h, fun _ => ⟨by rw [HRD2.out]; exact hp7, hs7⟩⟩
          have HR7 := aa hr7
          have HL7 : Hd (ps7.length = kept.length) := ⟨by rw [hp7.length_eq]; exact HL3.out⟩
          clear hp7 hs7 hr7 hg8 hb8 CT RS
          go_wp2_with fail
          go_ret2
          refine ⟨some ⟨g, 0, none⟩, cap, ps7, 0, by rw [HL7.out]; rfl, HE.out, HR7.out.le, HR7.out.all, fun _ => ⟨g, rfl⟩, HB7.out⟩
end Go.Proofs.YtgjkgkgieeoalaaGreat
namespace Go.Proofs.YtgjkgkgieeoalaaGreat
open Go.RowKit Go.PlainAid
def s14A : ByteArray := ⟨#[50, 42, 120, 32, 45, 32, 50, 42, 121]⟩
def s14B : ByteArray := ⟨#[120, 94, 50]⟩
def s14C : ByteArray := ⟨#[120, 32, 45, 32, 121]⟩
theorem parse14A : parseD 0 s14A = (0, [⟨ofD 2, ⟨1, 0, 0, 0⟩⟩, ⟨ofD (-2), ⟨0, 1, 0, 0⟩⟩]) := by kernel_rfl
theorem parse14B : parseD 0 s14B = (0, [⟨ofD 1, ⟨2, 0, 0, 0⟩⟩]) := by kernel_rfl
theorem parse14C : parseD 0 s14C = (0, [⟨ofD 1, ⟨1, 0, 0, 0⟩⟩, ⟨ofD (-1), ⟨0, 1, 0, 0⟩⟩]) := by kernel_rfl
theorem red14 : redD 0 [[⟨ofD 2, ⟨1, 0, 0, 0⟩⟩, ⟨ofD (-2), ⟨0, 1, 0, 0⟩⟩], [⟨ofD 1, ⟨2, 0, 0, 0⟩⟩]] = (0, [[⟨ofD 1, ⟨1, 0, 0, 0⟩⟩, ⟨ofD (-1), ⟨0, 1, 0, 0⟩⟩]]) := by kernel_rfl
theorem sm14A : Sm [qT 2 (1, 0, 0), qT (-2) (0, 1, 0)] := by
 obtain ⟨a1, a2⟩ := qT_sm (n := 2) (m := (1, 0, 0)) ⟨by decide, by decide⟩ ⟨⟨by decide, by decide⟩, ⟨by decide, by decide⟩, ⟨by decide, by decide⟩⟩
 obtain ⟨b1, b2⟩ := qT_sm (n := -2) (m := (0, 1, 0)) ⟨by decide, by decide⟩ ⟨⟨by decide, by decide⟩, ⟨by decide, by decide⟩, ⟨by decide, by decide⟩⟩
 exact ⟨(a1.app b1).le (by decide), a2.app b2, by simp⟩
theorem sm14B : Sm [qT 1 (2, 0, 0)] := by
 obtain ⟨a1, a2⟩ := qT_sm (n := 1) (m := (2, 0, 0)) ⟨by decide, by decide⟩ ⟨⟨by decide, by decide⟩, ⟨by decide, by decide⟩, ⟨by decide, by decide⟩⟩
 exact ⟨a1.le (by decide), a2, by simp⟩
theorem ok0 : oOk 0 := ⟨by decide, by decide⟩
theorem mk14A : (polMake 0 [qT 2 (1, 0, 0), qT (-2) (0, 1, 0)]).2 = [⟨ofD 2, ⟨1, 0, 0, 0⟩⟩, ⟨ofD (-2), ⟨0, 1, 0, 0⟩⟩] := by kernel_rfl
theorem mk14B : (polMake 0 [qT 1 (2, 0, 0)]).2 = [⟨ofD 1, ⟨2, 0, 0, 0⟩⟩] := by kernel_rfl
theorem cp14A : CP 0 [⟨ofD 2, ⟨1, 0, 0, 0⟩⟩, ⟨ofD (-2), ⟨0, 1, 0, 0⟩⟩] := by
 have := (sm14A.make ok0).1.cp
 rwa [mk14A] at this
theorem cp14B : CP 0 [⟨ofD 1, ⟨2, 0, 0, 0⟩⟩] := by
 have := (sm14B.make ok0).1.cp
 rwa [mk14B] at this
theorem short14 {a b : Int} {m m' : MonD} (ha : a.natAbs < 18446744073709551616) (hb : b.natAbs < 18446744073709551616) : shortP [⟨ofD a, m⟩, ⟨ofD b, m'⟩] := ⟨by simp, fun s hs => by
 simp only [List.mem_cons, List.not_mem_nil, or_false] at hs
 rcases hs with rfl | rfl
 ·exact ofD_short a ha
 ·exact ofD_short b hb⟩
theorem shortP.one {p : List TermD} (h : shortP p) : shortPs [p] := ⟨by simp, fun q hq => by
 simp only [List.mem_cons, List.not_mem_nil, or_false] at hq
 rw [hq]; exact h⟩
theorem same_14 {b0 : Nat} {A B : Option Addr} {c d : Nat} {X : List TermD} {w : World} (h : RPols w b0 A [X]) (hs : shortP X) (h' : RPols w b0 B [X]) :
    Calls Tryz.prog 41 #[.slice A 1 c, .slice B 1 d] w fun e w' => e = .returned (.bool true) ∧ Below w.heap.size w w' := by
 have := same_list b0 A B c d [X] [X] w h hs.one h' hs.one
 rwa [decide_eq_true rfl] at this
theorem red_one {o E : Int} {l R : List (List TermD)} {X : List TermD} (h : RedIs o l E R) (hr : redD o l = (0, [X])) : E = 0 ∧ R = [X] := by
 obtain ⟨e1, -, e2⟩ := h
 rw [hr] at e1 e2
 exact ⟨e1, List.perm_singleton.1 (e2 e1).1⟩
theorem law14_text (b0 : Nat) (s : ByteArray) (w : World) (hb0 : b0 ≤ w.heap.size) (hs : s.size ≤ 1000000) {X : List TermD} (hX : parseD 0 s = (0, X)) :
    Calls Tryz.prog 116 #[.string s] w fun e w' => ∃ A c, e = .returned (.slice A X.length c) ∧ X.length ≤ c ∧ RPol w' b0 A X ∧ Below w.heap.size w w' := by
 have CP := aa (ref_Parse b0 0 s w hb0 hs)
 rw [hX] at CP
 clear hX
 go_enter Tryz.func116, Tryz.ntmps116
 go_wp2_with fail
 refine CP.out.mono ?_
 rintro e w2 ⟨A, c, rfl, hc, hr, hb⟩
 have HR := aa hr
 have HB := aa hb
 clear hr hb
 go_wp2_with fail
 go_ret
 exact ⟨A, c, rfl, hc, HR.out, HB.out⟩
theorem law14_shown (w : World) : Calls Tryz.prog 39 #[] w fun e w' => e = .returned (.bool true) ∧ Below w.heap.size w w' := by
 have CA := aa (fun W (hB : Below w.heap.size w W) => law14_text w.heap.size s14A W hB.size (by decide) parse14A)
 have CB := aa (fun W (hB : Below w.heap.size w W) => law14_text w.heap.size s14B W hB.size (by decide) parse14B)
 have CC := aa (fun W (hB : Below w.heap.size w W) => law14_text w.heap.size s14C W hB.size (by decide) parse14C)
 have SC : Hd (shortP [⟨ofD 1, ⟨1, 0, 0, 0⟩⟩, ⟨ofD (-1), ⟨0, 1, 0, 0⟩⟩]) := ⟨short14 (by decide) (by decide)⟩
 have HD := aa red14
 have PA := aa cp14A
 have PB := aa cp14B
 obtain ⟨QA, hA⟩ : ∃ PA : List TermD, [⟨ofD 2, ⟨1, 0, 0, 0⟩⟩, ⟨ofD (-2), ⟨0, 1, 0, 0⟩⟩] = PA := ⟨_, rfl⟩
 obtain ⟨QB, hB⟩ : ∃ PB : List TermD, [⟨ofD 1, ⟨2, 0, 0, 0⟩⟩] = PB := ⟨_, rfl⟩
 obtain ⟨QC, hC⟩ : ∃ PC : List TermD, [⟨ofD 1, ⟨1, 0, 0, 0⟩⟩, ⟨ofD (-1), ⟨0, 1, 0, 0⟩⟩] = PC := ⟨_, rfl⟩
 rw [hA] at CA PA HD
 rw [hB] at CB PB HD
 rw [hC] at CC SC HD
 clear hA hB hC
 unfold s14A at CA
 unfold s14B at CB
 unfold s14C at CC
 go_enter Tryz.func39, Tryz.ntmps39
 go_wp2_with fail
 refine (CA.out _ (.refl _ _)).mono ?_
 rintro e w1 ⟨A1, c1, rfl, hc1, hr, hb⟩
 have HR1 := aa hr
 have HB1 := aa hb
 clear hr hb CA
 go_wp2_with fail
 refine (CB.out _ HB1.out).mono ?_
 rintro e w2 ⟨A2, c2, rfl, hc2, hr, hb⟩
 have HR2 := aa (HR1.out.up hb)
 have HQ2 := aa hr
 have HB2 := aa (goes HB1.out hb)
 clear hr hb CB HR1 HB1
 have hbn : Below w2.heap.size w2 (w2.alloc (Obj.cells #[.slice A1 QA.length c1, .slice A2 QB.length c2] 25)) := (ag _ _).alloc (ae _) _
 have HB3 := aa (goes HB2.out hbn)
 have CR := aa (reduce_Reduced w.heap.size w2.heap.size 0 2 0 [QA, QB] _ ok0 HB3.out.size (rpols_bk2 (p := QA) (q := QB) (Bk.new_ w2 25 #[.slice A1 QA.length c1, .slice A2 QB.length c2]) (HR2.out.up hbn) (HQ2.out.up hbn) hc1 hc2) (fun z hz => by
           simp only [List.mem_cons, List.not_mem_nil, or_false] at hz
           rcases hz with rfl | rfl
           ·exact PA.out
           ·exact PB.out) (by simp))
 dsimp only [List.length_cons, List.length_nil] at CR
 clear hbn
 go_wp2_with fail
 refine CR.out.mono ?_
 rintro e w3 ⟨A3, c3, R, E, rfl, hred, -, hr, -, hb⟩
 obtain ⟨rfl, rfl⟩ := red_one hred HD.out
 have HR3 := aa hr
 have HB4 := aa (goes HB3.out hb)
 clear hred hr hb CR HR2 HQ2 HB2 HB3
 go_wp2_with fail
 refine (CC.out _ HB4.out).mono ?_
 rintro e w4 ⟨A4, c4, rfl, hc4, hr, hb⟩
 have HR4 := aa (HR3.out.up hb)
 have HQ4 := aa hr
 have HB5 := aa (goes HB4.out hb)
 clear hr hb CC HR3 HB4
 have hbn : Below w4.heap.size w4 (w4.alloc (Obj.cells #[.slice A4 QC.length c4] 25)) := (ag _ _).alloc (ae _) _
 have HB6 := aa (goes HB5.out hbn)
 have CS := aa (same_14 (c := c3) (d := 1) (HR4.out.up hbn) SC.out (rpols_bk1 (p := QC) (Bk.new_ w4 25 #[.slice A4 QC.length c4]) (HQ4.out.up hbn) hc4))
 clear hbn
 go_wp2_with fail
 refine CS.out.mono ?_
 rintro e w5 ⟨rfl, hb⟩
 have HB7 := aa (goes HB6.out hb)
 clear hb CS
 go_wp2_with fail
 go_ret
 exact ⟨rfl, HB7.out⟩
end Go.Proofs.YtgjkgkgieeoalaaGreat
namespace Go.Proofs.YtgjkgkgieeoalaaGreat
open Go.RowKit
theorem red_cp {o : Int} {l R : List (List TermD)} (h : ∀ p ∈ l, CP o p) (hR : RedIs o l 0 R) : (∀ p ∈ R, CP o p) ∧ R.length ≤ l.length := by
 obtain ⟨e1, _, e2⟩ := hR
 obtain ⟨p1, s1⟩ := e2 rfl
 obtain ⟨F, _, hm, e⟩ := red_form h e1.symm
 have FR := F.perm p1
 refine ⟨fun p hp => (FR.mz p hp).pz.cp, ?_⟩
 have e1 := congrArg List.length e
 rw [List.length_map, List.length_map] at e1
 have e2 := congrArg List.length (monics_ok (full_pz h) hm).2
 rw [List.length_map, List.length_map] at e2
 have e3 := (inter_sub (monicsD o (fullD l)).2 []).length_le
 rw [List.nil_append] at e3
 have e4 : (fullD l).length ≤ l.length := List.length_filter_le _ _
 rw [p1.length_eq]
 omega
theorem raise_short {o : Int} {m : MonD} {p : List TermD} {s : Int} (h : shortP p) : shortP (raiseD o m p s).2 := by
 unfold raiseD
 split
 ·exact shortP_nil
 ·split
  ·exact shortP_nil
  ·split
   ·exact shortP_nil
   ·exact polTimes_shortP o h
theorem cross_short {o : Int} {p q : List TermD} (hp : shortP p) (hq : shortP q) : shortP (crossD o p q).2 := by
 unfold crossD
 split
 ·exact shortP_nil
 ·split
  ·split
   ·exact shortP_nil
   ·split
    ·exact shortP_nil
    ·refine polAdd_short fun r hr => ?_
     simp only [List.mem_cons, List.not_mem_nil, or_false] at hr
     rcases hr with rfl | rfl
     ·exact raise_short hp
     ·exact raise_short hq
  ·exact shortP_nil
theorem crossAll_cons (o : Int) (b : List (List TermD)) (x : Int × Int) (r : List (Int × Int)) : crossAll o b (x :: r) =
    if (crossD o (b.getD x.1.toNat []) (b.getD x.2.toNat [])).1 ≠ 0 then ((crossD o (b.getD x.1.toNat []) (b.getD x.2.toNat [])).1, false) else
    if (splitD o (crossD o (b.getD x.1.toNat []) (b.getD x.2.toNat [])).2 b).1 ≠ 0 then ((splitD o (crossD o (b.getD x.1.toNat []) (b.getD x.2.toNat [])).2 b).1, false) else
    if (splitD o (crossD o (b.getD x.1.toNat []) (b.getD x.2.toNat [])).2 b).2.2.length ≠ 0 then (0, false) else crossAll o b r := rfl
theorem reduce_Groebner (b0 b off c : Nat) (o : Int) (ps : List (List TermD)) (w : World) (ho : oOk o) (hb0 : b0 ≤ w.heap.size) (h : RPols w b0 (some ⟨b, off, none⟩) ps) (hcp : ∀ p ∈ ps, CP o p) (hl : ps.length ≤ 12) :
    Calls Tryz.prog 42 #[.int .i64 o, .slice (some ⟨b, off, none⟩) ps.length c] w fun e w' => e = .returned (.tuple #[.bool (groebD o ps).2, .int .i64 (groebD o ps).1]) ∧ Below w.heap.size w w' := by
 have hbs : basisD o ps = true := by simpa using basis_of ho hcp (by omega)
 have CB := aa (fun W (hB : Below w.heap.size w W) => reduce_basis b0 o (some ⟨b, off, none⟩) c ps W (h.up hB) (by omega) fun p hp => cp_short (hcp p hp))
 have CF := aa (fun W (hB : Below w.heap.size w W) => reduce_full b0 b off c ps W (ah hb0 hB.size) (h.up hB) (by omega))
 rw [hbs] at CB
 have HPZ := aa (full_pz hcp)
 have HB0 := aa hb0
 have hfl : (fullD ps).length ≤ 12 := ah (List.length_filter_le _ _) hl
 have HGR : Hd (groebD o ps = crossAll o (fullD ps) (allP (fullD ps).length)) := ⟨by unfold groebD; rw [if_neg (by rw [hbs]; simp)]⟩
 clear h hbs hcp hl hb0
 generalize groebD o ps = GR at HGR ⊢
 go_enter Tryz.func42, Tryz.ntmps42
 go_wp2_with fail
 refine (CB.out _ (.refl _ _)).mono ?_
 rintro e w2 ⟨rfl, hb⟩
 have HB2 := aa hb
 clear hb CB
 go_wp2_with fail
 refine (CF.out _ HB2.out).mono ?_
 rintro e w3 ⟨g, cap, S, rfl, hr, hb⟩
 have HS3 := aa hr.all
 have HB3 := aa (goes HB2.out hb)
 obtain ⟨M0, hM0⟩ : ∃ M0, fullD ps = M0 := ⟨_, rfl⟩
 rw [hM0] at HS3 HPZ HGR hfl ⊢
 have HSP : Hd (shortPs M0) := ⟨by omega, fun p hp => cp_short (HPZ.out p hp).cp⟩
 have HLE : Hd (M0.length ≤ cap) := ⟨by rw [← hM0]; exact hr.le⟩
 clear hb hr CF HB2 hM0
 generalize (⟨g, 0, none⟩ : Addr) = ga at HS3 ⊢
 have CN := aa (pair_All M0.length)
 have HA := aa (fun {i : Nat} {x y : Int} => allP_at (k := M0.length) (by omega) (i := i) (x := x) (y := y))
 have HFL := aa hfl
 have hlen : ((allP M0.length).length : Int) < 1000 := by
  have h1 := allP_len (k := M0.length) (by omega)
  have h2 := Nat.mul_le_mul hfl (show M0.length - 1 ≤ 12 by omega)
  omega
 generalize allP M0.length = ps2 at CN HA HGR hlen
 go_wp2_with fail
 refine (CN.out w3).mono ?_
 rintro e w4 ⟨A4, c4, rfl, hr, hb⟩
 have HP4 := aa hr
 have HS4 := aa (HS3.out.up hb)
 have HB4 := aa (goes HB3.out hb)
 clear hr hb CN HS3 HB3
 go_wp2_with fail
 go_loopw [20] (fun v wr => ∃ i : Nat, v = .int .i64 i ∧ i ≤ ps2.length ∧ Hd (Below w4.heap.size w4 wr) ∧ Hd (GR = crossAll o M0 (ps2.drop i))) (fun v _ => ps2.length - (intOf v).toNat)
 case atStart => exact ⟨0, rfl, by omega, ⟨.refl _ _⟩, HGR⟩
 case round =>
  clear HGR
  obtain ⟨i, rfl, hi, HBi, HG⟩ := hrel
  by_cases hlt : i < ps2.length
  ·have i1 : (i : Int) < ps2.length := by omega
   have i3 : (0 : Int) ≤ i := by omega
   obtain ⟨ad, x, y, rfl, -, hx, c0, c1⟩ := (HP4.out.up HBi.out).get hlt
   obtain ⟨x0, xy, yk⟩ := HA.out hx.out
   obtain ⟨a, rfl⟩ : ∃ a : Nat, x = a := ⟨x.toNat, by omega⟩
   obtain ⟨b, rfl⟩ : ∃ b : Nat, y = b := ⟨y.toNat, by omega⟩
   have a1 : (a : Int) < M0.length := by omega
   have b1 : (b : Int) < M0.length := by omega
   have a0 : (0 : Int) ≤ a := by omega
   have b00 : (0 : Int) ≤ b := by omega
   have HX : Hd (crossAll o M0 (ps2.drop i) = crossAll o M0 (((a : Int), (b : Int)) :: ps2.drop (i + 1))) := ⟨by
    obtain ⟨h1, h2⟩ := List.getElem?_eq_some_iff.1 hx.out
    rw [List.drop_eq_getElem_cons h1, h2]⟩
   clear x0 xy yk hx
   go_upto_region 7 with (fail)
   refine wp_gen (fun W => Below wr.heap.size wr W ∧ Bk W wr.heap.size 23 #[.int .i64 a, .int .i64 b]) ⟨(ag _ _).alloc (ae _) _, Bk.new_ _ _ _⟩ ?_
   intro W1 H1
   obtain ⟨d0, d1⟩ := Bk.two' H1.out.2
   have HB1 := aa (goes HBi.out H1.out.1)
   have HS1 := aa (HS4.out.up HB1.out)
   clear H1
   obtain ⟨ga', pa, pc, p, e, _, hp, ca, hpc, hpr⟩ := HS1.out.get (show a < M0.length by omega)
   obtain rfl : ga = ga' := by injection e
   obtain ⟨ga', qa, qc, q, e', _, hq, cb, hqc, hqr⟩ := HS1.out.get (show b < M0.length by omega)
   obtain rfl : ga = ga' := by injection e'
   clear e e'
   have hps := HSP.out.2 p (List.mem_of_getElem? hp.out)
   have hqs := HSP.out.2 q (List.mem_of_getElem? hq.out)
   have CX := aa (fun W (hB : Below W1.heap.size W1 W) => pair_Cross b0 o pa qa pc qc p q W (ah HB0.out (goes (goes HB4.out HB1.out) hB).size) (hpr.out.up hB) (hqr.out.up hB) hpc hqc hps hqs)
   have HCS := aa (cross_short (o := o) hps hqs)
   have HX2 : Hd (GR = if (crossD o p q).1 ≠ 0 then ((crossD o p q).1, false) else
       if (splitD o (crossD o p q).2 M0).1 ≠ 0 then ((splitD o (crossD o p q).2 M0).1, false) else
       if (splitD o (crossD o p q).2 M0).2.2.length ≠ 0 then (0, false) else crossAll o M0 (ps2.drop (i + 1))) := ⟨by
    rw [HG.out, HX.out, crossAll_cons]
    have h1 : M0.getD a [] = p := by rw [List.getD_eq_getElem?_getD, hp.out]; rfl
    have h2 : M0.getD b [] = q := by rw [List.getD_eq_getElem?_getD, hq.out]; rfl
    simp only [Int.toNat_natCast, h1, h2]⟩
   obtain ⟨C, hC⟩ : ∃ C, crossD o p q = C := ⟨_, rfl⟩
   rw [hC] at CX HCS HX2
   clear hC hp hq hpr hqr hps hqs HX HG
   have SO := aa (fun W (hB : Below W1.heap.size W1 W) => af (aa hB) (af (cell_up d0 hB) (af (cell_up d1 hB) (af (cell_up ca hB) (cell_up cb hB)))))
   go_region_held3 (fun w' => Hd (Below W1.heap.size W1 w') ∧ w'.cell? ⟨wr.heap.size, 0, none⟩ = some (.int .i64 a) ∧ w'.cell? ⟨wr.heap.size, 1, none⟩ = some (.int .i64 b) ∧ w'.cell? (ga.add a) = some (.slice pa p.length pc) ∧ w'.cell? (ga.add b) = some (.slice qa q.length qc))
    (first
     | with_reducible exact SO.out _ (.refl _ _)
     | with_reducible exact SO.out _ (ag _ _).drew
     | with_reducible exact SO.out _ hB8
     | fail)
    (first
     | (go_at_call 30; have hB := ‹Hd (Below W1.heap.size W1 _) ∧ _›.1; with_reducible refine (CX.out _ hB.out).mono ?_; rintro e w8 ⟨A8, c8, rfl, hc8, hr, hb⟩
        have hB8 := hB.out.trans (hb.mono hB.out.size)
        have HX8 := aa hr)
     | fail)
   all_goals
    have HB8 := aa (goes HB1.out hB8)
    have HS8 := aa (HS1.out.up hB8)
    clear SO CX hB8 d0 d1 ca cb HS1
    by_cases hC0 : C.1 = 0
    case neg =>
     have e1 : (C.1 == 0) = false := by rw [beq_eq_false_iff_ne]; exact hC0
     have e2 : (C.1 != 0) = true := by rw [bne_iff_ne]; exact hC0
     have HE : Hd (GR = (C.1, false)) := ⟨by rw [HX2.out, if_pos hC0]⟩
     clear hC0 HX2
     go_wp2_with fail
     go_ret2
     rw [HE.out]
     exact ⟨rfl, goes HB4.out HB8.out⟩
    have e1 : (C.1 == 0) = true := by rw [hC0]; rfl
    have HX3 := aa (HX2.out.trans (if_neg (by simpa using hC0)))
    have CR := aa (div_Rest b0 o A8 (some ga) c8 cap C.2 M0 w8 (ah HB0.out (goes HB4.out HB8.out).size) HX8.out hc8 HCS.out HS8.out HLE.out HSP.out)
    obtain ⟨D, hD⟩ : ∃ D, splitD o C.2 M0 = D := ⟨_, rfl⟩
    rw [hD] at CR HX3
    clear hD hC0 HX2 HX8 HS8 HCS
    go_wp2_with fail
    refine CR.out.mono ?_
    rintro e w9 ⟨A9, c9, rfl, -, -, hb⟩
    have HB9 := aa (goes HB8.out hb)
    clear hb CR
    by_cases hD0 : D.1 = 0
    case neg =>
     have e2 : (D.1 != 0) = true := by rw [bne_iff_ne]; exact hD0
     have HE : Hd (GR = (D.1, false)) := ⟨by rw [HX3.out, if_pos hD0]⟩
     clear hD0 HX3
     go_wp2_with fail
     go_ret2
     rw [HE.out]
     exact ⟨rfl, goes HB4.out HB9.out⟩
    have e2 : (D.1 != 0) = false := by rw [hD0]; rfl
    have HX4 := aa (HX3.out.trans (if_neg (by simpa using hD0)))
    by_cases hL : D.2.2.length = 0
    case neg =>
     have l3 : 0 < D.2.2.length := by omega
     have HE : Hd (GR = (0, false)) := ⟨by rw [HX4.out, if_pos hL]⟩
     have HD0 := aa hD0
     clear hD0 HX3 hL HX4
     go_wp2_with fail
     go_ret2
     rw [HE.out, HD0.out]
     exact ⟨rfl, goes HB4.out HB9.out⟩
    have l3 : ¬ 0 < D.2.2.length := by omega
    have HX5 := aa (HX4.out.trans (if_neg (by simpa using hL)))
    clear hL hD0 HX3 HX4
    go_wp2_with fail
    go_roundw
    case measure => first | (simp [intOf]; done) | (simp [intOf]; omega)
    case rel => exact ⟨i + 1, by go_num, by omega, HB9, HX5⟩
  ·have i1 : ¬ (i : Int) < ps2.length := by omega
   have HE : Hd (GR = (0, true)) := ⟨by rw [HG.out, List.drop_of_length_le (by omega)]; rfl⟩
   go_wp2_with fail
   go_ret2
   rw [HE.out]
   exact ⟨rfl, goes HB4.out HBi.out⟩
def inD (o : Int) (p : List TermD) (l : List (List TermD)) : Bool := decide ((splitD o p l).1 = 0) && decide ((splitD o p l).2.2 = [])
theorem reduce_In (b0 : Nat) (o : Int) (A L : Option Addr) (c cl : Nat) (p : List TermD) (l : List (List TermD)) (w : World) (hb0 : b0 ≤ w.heap.size) (h : RPol w b0 A p) (hc : p.length ≤ c) (hs : shortP p) (hL : RPols w b0 L l) (hcl : l.length ≤ cl) (hsl : shortPs l) :
    Calls Tryz.prog 45 #[.int .i64 o, .slice A p.length c, .slice L l.length cl] w fun e w' => e = .returned (.tuple #[.bool (inD o p l), .int .i64 (splitD o p l).1]) ∧ Below w.heap.size w w' := by
 have CR := aa (div_Rest b0 o A L c cl p l w hb0 h hc hs hL hcl hsl)
 obtain ⟨D, hD⟩ : ∃ D, splitD o p l = D := ⟨_, rfl⟩
 unfold inD
 rw [hD] at CR ⊢
 clear hD h hL
 go_enter Tryz.func45, Tryz.ntmps45
 go_wp2_with fail
 refine CR.out.mono ?_
 rintro e w2 ⟨A2, c2, rfl, -, -, hb⟩
 have HB2 := aa hb
 clear hb CR
 by_cases h0 : D.1 = 0
 case neg =>
  have e1 : (D.1 == 0) = false := by rw [beq_eq_false_iff_ne]; exact h0
  have H0 := aa h0
  clear h0
  go_wp2_with fail
  go_ret2
  rw [decide_eq_false H0.out]
  exact ⟨rfl, HB2.out⟩
 have e1 : (D.1 == 0) = true := by rw [h0]; rfl
 have H0 := aa h0
 clear h0
 by_cases h1 : D.2.2 = []
 case pos =>
  have e2 : ((D.2.2.length : Int) == 0) = true := by rw [h1]; rfl
  have H1 := aa h1
  clear h1
  go_wp2_with fail
  go_ret2
  rw [decide_eq_true H0.out, decide_eq_true H1.out]
  exact ⟨rfl, HB2.out⟩
 have e2 : ((D.2.2.length : Int) == 0) = false := by
  rw [beq_eq_false_iff_ne]
  intro h
  exact h1 (List.length_eq_zero_iff.1 (by omega))
 have H1 := aa h1
 clear h1
 go_wp2_with fail
 go_ret2
 rw [decide_eq_true H0.out, decide_eq_false H1.out]
 exact ⟨rfl, HB2.out⟩
def OwnL (w : World) (b0 base : Nat) (v : Value) (ps : List (List TermD)) : Prop :=
 ∃ cs, w.ownsRow base 25 1 v ps.length cs ∧ ∀ (j : Nat) (p : List TermD), ps[j]? = some p → ∃ g c bs, cs[j]? = some (.slice (some ⟨g, 0, none⟩) p.length c) ∧ p.length ≤ c ∧ RPol w b0 (some ⟨g, 0, none⟩) p ∧ Bk w g 68 bs
theorem OwnL.up {w w' : World} {b0 base : Nat} {v : Value} {ps : List (List TermD)} (h : OwnL w b0 base v ps) (hb : Below w.heap.size w w') : OwnL w' b0 base v ps := by
 obtain ⟨cs, h1, h2⟩ := h
 exact ⟨cs, own_below h1 hb, fun j p hj => let ⟨g, c, bs, a1, a2, a3, a4⟩ := h2 j p hj; ⟨g, c, bs, a1, a2, a3.up hb, a4.up hb⟩⟩
theorem OwnL.lit (w : World) (b0 base : Nat) (hb : base ≤ w.heap.size) : OwnL (w.alloc (.cells #[] 25)) b0 base (.slice (some ⟨w.heap.size, 0, none⟩) 0 0) [] :=
 ⟨[], World.ownsRow_lit (e := 25) (size := 1) w #[] 0 hb (by unfold maxLen; omega) rfl, fun j p hj => by simp at hj⟩
theorem OwnL.reads {w : World} {b0 base : Nat} {v : Value} {ps : List (List TermD)} (h : OwnL w b0 base v ps) : ∃ A c, v = .slice A ps.length c ∧ ps.length ≤ c ∧ (ps ≠ [] → ∃ g, A = some ⟨g, 0, none⟩) ∧ RPols w b0 A ps := by
 obtain ⟨cs, h1, h2⟩ := h
 have hf : ∃ A c, v = .slice A ps.length c ∧ ps.length ≤ c ∧ (ps ≠ [] → ∃ g, A = some ⟨g, 0, none⟩) := by
  rcases h1.2 with ⟨e1, h0⟩ | ⟨g, cap, cur, e1, _, _, h4, _⟩
  ·exact ⟨none, 0, by rw [h0]; exact e1, by omega, fun hne => absurd (List.eq_nil_of_length_eq_zero h0) hne⟩
  ·exact ⟨_, _, e1, h4, fun _ => ⟨g, rfl⟩⟩
 obtain ⟨A, c, rfl, hc, hg⟩ := hf
 exact ⟨A, c, rfl, hc, hg, cs, Rd.of_own h1, fun j p hj => let ⟨g, c, _, a1, a2, a3, _⟩ := h2 j p hj; ⟨_, c, a1, a2, a3⟩⟩
theorem step_append_L {w w0 : World} {ops : Array Oper} {o : Oper} {a : Act} {K : Act → World → Prop} {Q : Exit → Act → World → Prop} {E : Prop} (hgd : o.guard = none) (s x : Operand)
    (ho : o.op = .call { callee := .builtin .append, args := #[s, x], argTypes := #[27, 27] })
    {b0 base B : Nat} {v : Value} {ps : List (List TermD)} {p : List TermD} {g gt c ct : Nat} {bs : Array Value} (hs : a.eval s = v) (hx : a.eval x = .slice (some ⟨g, 0, none⟩) 1 c) (hO : OwnL w b0 base v ps) (hR : Bk w g 25 #[.slice (some ⟨gt, 0, none⟩) p.length ct])
    (hp : RPol w b0 (some ⟨gt, 0, none⟩) p) (hpc : p.length ≤ ct) (hpk : Bk w gt 68 bs)
    (hlen : ps.length ≤ 1000) (hB : Below B w0 w) (hBb : B ≤ base) (hbase : base ≤ w.heap.size) (hb0 : b0 ≤ base)
    (h : ∀ v' w', OwnL w' b0 base v' (ps ++ [p]) → Below B w0 w' → K (a.put o.dst v') w') : if Region.wanted o (yielded ops a.tmps) = true then Oper.wp Tryz.prog o a w K Q else E := by
 obtain ⟨i0, hi0, hz0, hz1, hz2⟩ := info_split Tryz.infPoly
 obtain ⟨cs, hO1, hO2⟩ := hO
 have hr : Rd w w.heap.size 1 (some ⟨g, 0, none⟩) 1 [.slice (some ⟨gt, 0, none⟩) p.length ct] := ⟨rfl, fun _ => ⟨_, rfl, hR.lt, fun j u hu => by
  rw [add_win, Nat.zero_add, hR.cell]; simpa using hu⟩⟩
 refine step_append_rdN w hgd s x 27 ho base 25 i0 _ 1 24 Tryz.slPolys hi0 hz0 hz1 hz2 rfl (by decide) v ps.length _ hs hO1 _ _ 1 c _ hx hr (by intro u hu; simp at hu; rcases hu with rfl; rfl) (by unfold maxLen; omega) (by omega) hbase ?_
 intro v' w' h1 hg _
 have hrk := own_row_ok hO1 hb0 (by decide)
 have hne : ∀ {g' : Nat} {bs' : Array Value}, Bk w g' 68 bs' → some g' ≠ v.ownBlock := fun hk e => by
  obtain ⟨⟨ds, hk2⟩, _⟩ := own_bk hO1 e.symm
  exact Bk.ne_ hk hk2 (by decide) rfl
 have kp : ∀ {g' : Nat} {bs' : Array Value} {q : List TermD}, Bk w g' 68 bs' → RPol w b0 (some ⟨g', 0, none⟩) q → RPol w' b0 (some ⟨g', 0, none⟩) q := fun hk hq =>
  hq.grown hg (fun _ ad e e2 => by injection e with e; subst e; exact hne hk e2.symm) hrk
 have hcl : cs.length = ps.length := by have := hO1.1; simpa using this
 refine h v' w' ⟨_, by rw [List.length_append]; exact h1, fun j q hj => ?_⟩ (hB.grown hg (ah hBb hbase) fun k hk => ah hBb (own_bk hO1 hk).2)
 rcases Nat.lt_or_ge j ps.length with hl | hl
 ·rw [List.getElem?_append_left hl] at hj
  obtain ⟨g', c', bs', a1, a2, a3, a4⟩ := hO2 j q hj
  exact ⟨g', c', bs', by rw [List.getElem?_append_left (by omega)]; exact a1, a2, kp a4 a3, a4.grown hg (hne a4)⟩
 ·rw [List.getElem?_append_right hl] at hj
  obtain ⟨k, hk⟩ : ∃ k, j - ps.length = k := ⟨_, rfl⟩
  rw [hk] at hj
  cases k with
  | zero =>
    simp only [List.getElem?_cons_zero, Option.some.injEq] at hj
    subst hj
    exact ⟨gt, ct, bs, by rw [List.getElem?_append_right (by omega), hcl, hk]; rfl, hpc, kp hpk hp, hpk.grown hg (hne hpk)⟩
  | succ k => simp at hj
theorem reduce_Within (b0 : Nat) (o : Int) (A L : Option Addr) (c cl : Nat) (ps l : List (List TermD)) (w : World) (ho : oOk o) (hb0 : b0 ≤ w.heap.size) (h : RPols w b0 A ps) (hcp : ∀ p ∈ ps, CP o p) (hl : ps.length ≤ 12) (hL : RPols w b0 L l) (hcl : l.length ≤ cl) (hsl : shortPs l) (hin : ∀ p ∈ ps, (splitD o p l).1 = 0 ∧ (splitD o p l).2.2 = []) :
    Calls Tryz.prog 49 #[.int .i64 o, .slice A ps.length c, .slice L l.length cl] w fun e w' => e = .returned (.tuple #[.bool true, .int .i64 0]) ∧ Below w.heap.size w w' := by
 have hbs : basisD o ps = true := by simpa using basis_of ho hcp (by omega)
 have CB := aa (reduce_basis b0 o A c ps w h (by omega) fun p hp => cp_short (hcp p hp))
 rw [hbs] at CB
 have CI := aa (fun (a : Option Addr) (pc : Nat) (p : List TermD) (W : World) (hB : Below w.heap.size w W) (hp : RPol W b0 a p) (hc : p.length ≤ pc) (hm : p ∈ ps) => reduce_In b0 o a L pc cl p l W (ah hb0 hB.size) hp hc (cp_short (hcp p hm)) (hL.up hB) hcl hsl)
 have HR := aa h
 have HIN := aa hin
 clear h hL hcp hbs hin hsl hcl
 go_enter Tryz.func49, Tryz.ntmps49
 go_wp2_with fail
 refine CB.out.mono ?_
 rintro e w1 ⟨rfl, hb⟩
 have HB1 := aa hb
 clear hb CB
 go_wp2_with fail
 go_loopw [18] (fun v wr => ∃ i : Nat, v = .int .i64 i ∧ i ≤ ps.length ∧ Hd (Below w.heap.size w wr)) (fun v _ => ps.length - (intOf v).toNat)
 case atStart => exact ⟨0, rfl, by omega, HB1⟩
 case round =>
  clear HB1
  obtain ⟨i, rfl, hi, HB⟩ := hrel
  by_cases hlt : i < ps.length
  case pos =>
   have i1 : (i : Int) < ps.length := by omega
   have i3 : (0 : Int) ≤ i := by omega
   obtain ⟨ad', a, pc, p, rfl, -, hp, c0, hpc, hr⟩ := (HR.out.up HB.out).get hlt
   have hm := List.mem_of_getElem? hp.out
   have CI1 := aa (CI.out a pc p wr HB.out hr.out hpc hm)
   obtain ⟨e1, e2⟩ := HIN.out p hm
   unfold inD at CI1
   rw [e1, e2, decide_eq_true rfl, decide_eq_true rfl] at CI1
   clear e1 e2 hm hp hr
   go_wp2_with fail
   refine CI1.out.mono ?_
   rintro e w2 ⟨rfl, hb⟩
   have HB2 := aa (goes HB.out hb)
   clear hb CI1
   go_wp2_with fail
   go_roundw
   case measure => first | (simp [intOf]; done) | (simp [intOf]; omega)
   case rel => exact ⟨i + 1, by go_num, by omega, HB2⟩
  case neg =>
   have i1 : ¬ (i : Int) < ps.length := by omega
   go_wp2_with fail
   go_ret2
   exact ⟨rfl, HB.out⟩
end Go.Proofs.YtgjkgkgieeoalaaGreat
