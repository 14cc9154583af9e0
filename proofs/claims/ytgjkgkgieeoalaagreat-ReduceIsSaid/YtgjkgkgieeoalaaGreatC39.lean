/- Parts of the proof, joined: each theorem says what it shows. -/
import Derived.Test.YtgjkgkgieeoalaaGreatC35
import Derived.Test.YtgjkgkgieeoalaaGreatC38
set_option linter.unusedVariables false
set_option linter.unusedSimpArgs false
set_option maxHeartbeats 24000000
set_option maxRecDepth 100000
namespace Go.Proofs.YtgjkgkgieeoalaaGreat
open Go.RowKit
theorem div_RestF (b0 : Nat) (o : Int) (A L : Option Addr) (c cl : Nat) (p : List TermD) (l : List (List TermD)) (w : World) (hb0 : b0 ≤ w.heap.size) (h : RPol w b0 A p) (hc : p.length ≤ c) (hs : shortP p) (hL : RPols w b0 L l) (hcl : l.length ≤ cl) (hsl : shortPs l) :
    Calls Tryz.prog 112 #[.int .i64 o, .slice A p.length c, .slice L l.length cl] w fun e w' => ∃ R rc, e = .returned (.tuple #[.slice R (splitD o p l).2.2.length rc, .int .i64 (splitD o p l).1]) ∧ (splitD o p l).2.2.length ≤ rc ∧ RPol w' b0 R (splitD o p l).2.2 ∧ Below w.heap.size w w' ∧ Fr w.heap.size R := by
 have CS := Hd.mk (div_SplitF b0 o A L c cl p l w hb0 h hc hs hL hcl hsl)
 obtain ⟨D, hD⟩ : ∃ D, splitD o p l = D := ⟨_, rfl⟩
 rw [hD] at CS ⊢
 clear hD h hs hL hsl
 go_enter Tryz.func112, Tryz.ntmps112
 go_wp2_with fail
 refine CS.out.mono ?_
 rintro e w' ⟨Q, qc, R, rc, rfl, -, hrc, -, hR, hB, hF⟩
 have HR := Hd.mk (And.intro hR (And.intro hB hF))
 clear hR hB hF CS
 go_wp2_with fail
 go_ret2
 exact ⟨R, rc, rfl, hrc, HR.out.1, HR.out.2⟩
theorem cp_short {o : Int} {p : List TermD} (h : CP o p) : shortP p := ⟨by have := h.len; omega, fun t ht => by
 obtain ⟨h1, h2, _⟩ := ratMay_of (h.canon.good t ht).c.may
 have := natMay_len h1
 have := natMay_len h2
 exact ⟨by omega, by omega⟩⟩
structure Rs (b0 base gb g cap : Nat) (o : Int) (w0 w : World) (S : List SV) (ps : List (List TermD)) : Prop where
 below : Below w0.heap.size w0 w
 bb : w0.heap.size ≤ base
 box : Bk w gb 3 #[.int .i64 o]
 row : RowP w b0 base g cap S ps
section
variable {b0 base gb g cap : Nat} {o : Int} {w0 w w' : World} {S S' : List SV} {ps : List (List TermD)}
theorem Rs.up (h : Rs b0 base gb g cap o w0 w S ps) (hb : Below w.heap.size w w') : Rs b0 base gb g cap o w0 w' S ps := ⟨goes h.below hb, h.bb, h.box.up hb, h.row.up hb⟩
theorem Rs.ne (h : Rs b0 base gb g cap o w0 w S ps) : gb ≠ g := by
 obtain ⟨cs, hk, _⟩ := h.row.row.bk
 exact Bk.ne_ h.box hk (by decide)
theorem Rs.set (h : Rs b0 base gb g cap o w0 w S ps) {j : Nat} (hj : j < ps.length) {a : Option Addr} {c : Nat} {p : List TermD} (hr : RPol w b0 a p) (hc : p.length ≤ c) (hne : p ≠ [] → ∀ ad, a = some ad → ad.block ≠ g) :
    Rs b0 base gb g cap o w0 (w.setCell ⟨g, j, none⟩ (.slice a p.length c)) (S.set j (a, p.length, c)) (ps.set j p) :=
 ⟨h.below.setCell (Nat.le_trans h.bb h.row.row.base) _, h.bb, h.box.far h.ne _, h.row.set hj hr hc hne⟩
end
theorem fr_ne {g B : Nat} {A : Option Addr} (h : Fr B A) (hg : g < B) : ∀ ad, A = some ad → ad.block ≠ g := fun ad e => by have := h ad e; omega
def lenV : Value → Nat
 | .slice _ n _ => n
 | _ => 0
def addR (done : List (List TermD)) (r : Int × List (List TermD)) : Int × List (List TermD) := if r.1 ≠ 0 then (r.1, []) else (0, done ++ r.2)
theorem addR_nil (r : Int × List (List TermD)) (h : r.1 ≠ 0 → r.2 = []) : addR [] r = r := by
 unfold addR
 split
 ·rename_i h1; exact Prod.ext rfl (h h1).symm
 ·rename_i h1; exact Prod.ext (by simpa using Eq.symm (Decidable.not_not.1 h1)) rfl
theorem monics_err {o : Int} {l : List (List TermD)} (h : (monicsD o l).1 ≠ 0) : (monicsD o l).2 = [] := by
 cases l with
 | nil => rfl
 | cons p l =>
   unfold monicsD at h ⊢
   split
   ·rfl
   ·split
    ·rfl
    ·rename_i h1 h2; rw [if_neg h1, if_neg h2] at h; exact absurd rfl h
theorem monics_step {o : Int} {done l : List (List TermD)} {p : List TermD} : addR done (monicsD o (p :: l)) = if (polMonic o p).1 ≠ 0 then ((polMonic o p).1, []) else addR (done ++ [(polMonic o p).2]) (monicsD o l) := by
 conv => lhs; unfold monicsD
 split
 ·rename_i h; unfold addR; rw [if_pos h]
 ·split
  ·rename_i h; unfold addR; rw [if_pos h, if_pos h]
  ·rename_i h; unfold addR; rw [if_neg (by simp), if_neg h]; simp
theorem getElem_app {done l : List (List TermD)} {p : List TermD} : (done ++ p :: l)[done.length]? = some p := by simp
theorem rests_cons (o : Int) (done todo : List (List TermD)) (p : List TermD) : restsD o done (p :: todo) = if (splitD o p (done ++ todo)).1 ≠ 0 then ((splitD o p (done ++ todo)).1, []) else restsD o (done ++ [(splitD o p (done ++ todo)).2.2]) todo := rfl
theorem inter_cons (kept rest : List (List TermD)) (p : List TermD) : interD kept (p :: rest) = if goesD kept rest p = true then interD kept rest else interD (kept ++ [p]) rest := rfl
theorem erase_app {done l : List (List TermD)} {p : List TermD} : (done ++ p :: l).eraseIdx done.length = done ++ l := by rw [List.eraseIdx_append_of_length_le (Nat.le_refl _)]; simp
theorem set_app {done l : List (List TermD)} {p q : List TermD} : (done ++ p :: l).set done.length q = done ++ [q] ++ l := by simp
theorem reduce_Reduced (b0 b off c : Nat) (o : Int) (ps : List (List TermD)) (w : World) (ho : oOk o) (hb0 : b0 ≤ w.heap.size) (h : RPols w b0 (some ⟨b, off, none⟩) ps) (hcp : ∀ p ∈ ps, CP o p) (hl : ps.length ≤ 12) :
    Calls Tryz.prog 37 #[.int .i64 o, .slice (some ⟨b, off, none⟩) ps.length c] w fun e w' => ∃ A' c' R E, e = .returned (.tuple #[.slice A' R.length c', .int .i64 E]) ∧ RedIs o ps E R ∧ R.length ≤ c' ∧
     RPols w' b0 A' R ∧ (E = 0 → ∃ g, A' = some ⟨g, 0, none⟩) ∧ Below w.heap.size w w' := by
 have hbs : basisD o ps = true := by simpa using basis_of ho hcp (by omega)
 have CB := Hd.mk (fun W (hB : Below w.heap.size w W) => reduce_basis b0 o (some ⟨b, off, none⟩) c ps W (h.up hB) (by omega) fun p hp => cp_short (hcp p hp))
 have CF := Hd.mk (fun W (hB : Below w.heap.size w W) => reduce_full b0 b off c ps W (Nat.le_trans hb0 hB.size) (h.up hB) (by omega))
 rw [hbs] at CB
 have HRD : Hd (redD o ps = if (monicsD o (fullD ps)).1 ≠ 0 then ((monicsD o (fullD ps)).1, []) else restsD o [] (interD [] (monicsD o (fullD ps)).2)) := ⟨by unfold redD; rw [if_neg (by rw [hbs]; simp)]⟩
 have HPZ := Hd.mk (full_pz hcp)
 have HO := Hd.mk ho
 have HFL : Hd ((fullD ps).length ≤ 12) := ⟨Nat.le_trans (List.length_filter_le _ _) hl⟩
 clear h hbs hcp
 go_enter Tryz.func37, Tryz.ntmps37
 go_upto_region 1 with (fail)
 refine wp_gen (fun W => Below w.heap.size w W ∧ Bk W w.heap.size 3 #[.int .i64 o]) ⟨(Below.refl _ _).alloc (Nat.le_refl _) _, Bk.new_ _ _ _⟩ ?_
 intro W1 H1
 have HB1 := Hd.mk H1.out.1
 have K1 := Hd.mk H1.out.2
 have q0 := K1.out.one
 clear H1
 go_wp2_with fail
 refine (CB.out _ HB1.out).mono ?_
 rintro e w2 ⟨rfl, hb⟩
 have HB2 := Hd.mk (goes HB1.out hb)
 have K2 := Hd.mk (K1.out.up hb)
 clear hb CB q0 K1 HB1
 go_wp2_with fail
 refine (CF.out _ HB2.out).mono ?_
 rintro e w3 ⟨g, cap, S, rfl, hr, hb⟩
 have HS3 : Hd (Rs b0 w2.heap.size w.heap.size g cap o w w3 S (fullD ps)) := ⟨⟨goes HB2.out hb, HB2.out.size, K2.out.up hb, hr⟩⟩
 generalize w2.heap.size = base at HS3
 obtain ⟨M0, hM0⟩ : ∃ M0, fullD ps = M0 := ⟨_, rfl⟩
 rw [hM0] at HS3 HRD HPZ HFL ⊢
 clear hb hr CF HB2 K2 hM0
 have hl0 := HFL.out
 go_wp2_with fail
 go_loopw [26] (fun v26 wr => ∃ (i : Nat) (S : List SV) (done todo : List (List TermD)), v26 = .int .i64 i ∧ done.length = i ∧ done.length + todo.length = M0.length ∧ Hd (Rs b0 base w.heap.size g cap o w wr S (done ++ todo)) ∧ Hd (∀ p ∈ todo, Pz o p) ∧ Hd (monicsD o M0 = addR done (monicsD o todo))) (fun v _ => M0.length - (intOf v).toNat)
 case atStart => exact ⟨0, S, [], M0, rfl, rfl, by simp, HS3, HPZ, ⟨(addR_nil _ monics_err).symm⟩⟩
 case round =>
  have HPZ0 := HPZ
  clear HS3 HPZ
  obtain ⟨i, S, done, todo, rfl, hi, hlen, RS, HZ, HM⟩ := hrel
  cases todo with
  | cons p todo =>
    have hlt : i < M0.length := by simp at hlen; omega
    have i1 : (i : Int) < M0.length := by omega
    have i3 : (0 : Int) ≤ i := by omega
    obtain ⟨a, pc, p', hp', hcell, hpc, hrp⟩ := RS.out.row.get (j := i) (by simp; omega)
    have e : p' = p := by
     have := hp'.out
     rw [← hi, getElem_app] at this
     injection this with this
     exact this.symm
    subst e
    have PZ := Hd.mk (HZ.out p' (by simp))
    have q0 := RS.out.box.one
    have CM := Hd.mk (poly_MonicF b0 o a pc p' wr (Nat.le_trans hb0 RS.out.below.size) hrp.out hpc (cp_short PZ.out.cp))
    have HMS := Hd.mk (HM.out.trans monics_step)
    obtain ⟨E, hE⟩ : ∃ E, polMonic o p' = E := ⟨_, rfl⟩
    rw [hE] at CM HMS
    have HN := Hd.mk (And.intro hi hlen)
    clear hp' hrp hE HM hlen hi
    go_wp2_with fail
    refine CM.out.mono ?_
    rintro e w4 ⟨A4, c4, rfl, hc4, hr4, hb4, hf4⟩
    have RS4 := Hd.mk (RS.out.up hb4)
    have hfn := fr_ne hf4 RS.out.row.row.lt
    have HR4 := Hd.mk hr4
    have HC4 := Hd.mk hc4
    have HN4 := Hd.mk hfn
    clear hb4 hr4 hf4 hc4 hfn CM hcell q0 RS
    by_cases h0 : E.1 = 0
    case neg =>
     have e1 : (E.1 != 0) = true := by rw [bne_iff_ne]; exact h0
     have HE : Hd (RedIs o ps E.1 []) := ⟨by
      have h1 := HMS.out
      rw [if_pos h0] at h1
      refine ⟨?_, fun _ => rfl, fun h => absurd h h0⟩
      rw [HRD.out, h1, if_pos h0]⟩
     have H0 := Hd.mk h0
     clear h0 HMS HN
     go_wp2_with fail
     go_ret2
     exact ⟨none, 0, [], E.1, rfl, HE.out, Nat.le_refl _, RPols.nil _ _ _, fun h => absurd h H0.out, RS4.out.below⟩
    have e1 : (E.1 != 0) = false := by rw [bne_eq_false_iff_eq]; exact h0
    have HMS2 := Hd.mk (HMS.out.trans (if_neg (by simpa using h0)))
    obtain ⟨a', pc', p2, -, hcell, -, -⟩ := RS4.out.row.get (j := i) (by have := HN.out.1; simp; omega)
    have fz := fun j => RS4.out.row.row.froz j
    clear h0 HMS
    have RS5 : Hd (Rs b0 base w.heap.size g cap o w (w4.setCell ⟨g, i, none⟩ (.slice A4 E.2.length c4)) (S.set i (A4, E.2.length, c4)) (done ++ [E.2] ++ todo)) := ⟨by
     have := RS4.out.set (j := i) (by have := HN.out.1; simp; omega) HR4.out HC4.out (fun _ => HN4.out)
     rw [← HN.out.1, set_app] at this
     rw [← HN.out.1]
     exact this⟩
    go_wp2_with fail
    exact ⟨⟨i + 1, _, done ++ [E.2], todo, by go_num, by simp [HN.out.1], by have := HN.out.2; simp at this ⊢; omega, RS5, ⟨fun p hp => HZ.out p (by simp [hp])⟩, HMS2⟩, by simp [intOf]; omega⟩
  | nil =>
    have hie : i = M0.length := by simp at hlen; omega
    subst hie
    have i1 : ¬ (M0.length : Int) < M0.length := by omega
    have hd : monicsD o M0 = (0, done) := by
     have := HM.out
     unfold addR at this
     simpa [monicsD] using this
    have HL1 : Hd (done.length = M0.length) := ⟨hi⟩
    have hmz := (monics_ok HPZ0.out (by rw [hd])).1
    rw [hd] at hmz
    have HZ1 : Hd (∀ p ∈ done, Mz o p) := ⟨hmz⟩
    have HRD1 : Hd (redD o ps = restsD o [] (interD [] done)) := ⟨by rw [HRD.out, hd, if_neg (by simp)]⟩
    have RS1 := RS
    rw [List.append_nil] at RS1
    clear hmz hd HM HRD RS hlen hi HZ
    have hd12 : done.length ≤ 12 := by have := HL1.out; have := HFL.out; omega
    rw [← HL1.out]
    go_wp2_with fail
    go_loopw [1, 10] (fun v1 v10 wr => ∃ (g cap : Nat) (S : List SV) (kept rest : List (List TermD)), v1 = .slice (some ⟨g, 0, none⟩) (kept ++ rest).length cap ∧ v10 = .int .i64 kept.length ∧ (kept ++ rest).length ≤ 12 ∧ Hd (∃ base, Rs b0 base w.heap.size g cap o w wr S (kept ++ rest)) ∧ Hd (∀ p ∈ kept ++ rest, Mz o p) ∧ Hd (interD kept rest = interD [] done)) (fun v1 v10 _ => lenV v1 - (intOf v10).toNat)
    case atStart => exact ⟨g, cap, S, [], done, rfl, rfl, hd12, ⟨base, RS1.out⟩, HZ1, ⟨rfl⟩⟩
    case round =>
     clear RS1
     obtain ⟨g, cap, S, kept, rest, rfl, rfl, h12, RS2, HZ2, HI2⟩ := hrel
     obtain ⟨base, RS2⟩ := RS2.out
     have RS2 := Hd.mk RS2
     cases rest with
     | cons p rest =>
       obtain ⟨n, hn⟩ : ∃ n, (kept ++ p :: rest).length = n := ⟨_, rfl⟩
       obtain ⟨i, hi⟩ : ∃ i, kept.length = i := ⟨_, rfl⟩
       have hlt : i < n := by rw [← hn, ← hi]; simp
       have i1 : (i : Int) < n := by omega
       have i3 : (0 : Int) ≤ i := by omega
       obtain ⟨a, pc, p', hp', hcell, hpc, hrp⟩ := RS2.out.row.get (j := i) (by omega)
       have e : p' = p := by
        have := hp'.out
        rw [← hi, getElem_app] at this
        injection this with this
        exact this.symm
       subst e
       have MZ := Hd.mk (HZ2.out p' (by simp))
       obtain ⟨ad, rfl, -, p0, p1, p2, p3⟩ := hrp.out.head MZ.out.pz.ne
       have hpos : (0 : Int) < p'.length := by have := List.length_pos_iff.2 MZ.out.pz.ne; omega
       have HN := Hd.mk (And.intro hn hi)
       rw [hn] at h12 ⊢
       rw [hi]
       clear hp' hrp hn hi
       go_upto_region 17 with (fail)
       refine wp_gen (fun W => Bo2 wr.heap.size wr.heap.size (wr.heap.size + 1) wr W 66 159 #[.int .i64 (hdM p').x0, .int .i64 (hdM p').x1, .int .i64 (hdM p').x2, .int .i64 (hdM p').x3] #[.func (.func 107) #[] #[.pointer (some ⟨wr.heap.size, 0, none⟩)]]) (Bo2.mk2 wr _ _ _ _) ?_
       intro W1 BX1
       have RS3 := Hd.mk (RS2.out.up BX1.out.below)
       have f0 := Wd.cell BX1.out.k2.one
       clear p0 p1 p2 p3 hcell RS2
       have il : (i : Int) ≤ n := by omega
       have ic : i ≤ cap := by have := RS3.out.row.le; have := HN.out.1; omega
       have ic' : (i : Int) ≤ cap := by omega
       have gd : ∀ q, kept.any (fun x => dvd x p') = q → (kept.any fun x => (monDiv (hdM p') (hdM x)).1) = q := fun q h => h
       have CA := Hd.mk (fun nn : Wd W1 => polys_Contains 107 #[.pointer (some ⟨wr.heap.size, 0, none⟩)] (enters_of Tryz.func107 (by kernel_rfl) rfl) b0 (fun x => dvd x p') (some ⟨g, 0, none⟩) cap kept nn.w
        (by have := (RS3.out.up nn.lo).row.part (i := 0) (n := kept.length) (by simp); simpa using this) (by have := HN.out.2; omega)
        (fun W' a pc x hB hx hr hpc => Reduced_1 (m := hdM p') ((BX1.out.k1.up nn.lo).up hB) hr (HZ2.out x (by simp [hx])).pz.ne hpc))
       have CC := Hd.mk (fun (nn : Wd W1) (A : Option Addr) (c : Nat) (hA : rest ≠ [] → A = some ⟨g, i + 1, none⟩) => polys_Contains 109 #[.pointer (some ⟨wr.heap.size + 1, 0, none⟩), .pointer (some ⟨wr.heap.size, 0, none⟩)] (enters_of Tryz.func109 (by kernel_rfl) rfl) b0 (fun x => dvd x p' && !decide (hdM x = hdM p')) A c rest nn.w
        (by
         by_cases hr : rest = []
         ·rw [hr]; exact RPols.nil _ _ _
         ·rw [hA hr]
          have := (RS3.out.up nn.lo).row.part (i := i + 1) (n := rest.length) (by have := HN.out.2; simp; omega)
          rw [← HN.out.2] at this
          rw [← HN.out.2]
          simpa using this) (by have := HN.out.1; simp at this; omega)
        (fun W' a pc x hB hx hr hpc => Reduced_2 (m := hdM p') ((BX1.out.k1.up nn.lo).up hB) ((BX1.out.k2.up nn.lo).up hB) hr (HZ2.out x (by simp [hx])).pz.ne hpc))
       obtain ⟨u, hu⟩ : ∃ u, kept.any (fun x => dvd x p') = u := ⟨_, rfl⟩
       obtain ⟨v, hv⟩ : ∃ v, rest.any (fun x => dvd x p' && !decide (hdM x = hdM p')) = v := ⟨_, rfl⟩
       rw [hu, HN.out.2] at CA
       rw [hv] at CC
       have HG : Hd (goesD kept rest p' = (u || v)) := ⟨by unfold goesD; rw [hu, hv]⟩
       obtain ⟨r, hr⟩ : ∃ r, rest.length = r := ⟨_, rfl⟩
       have HRL := Hd.mk hr
       rw [hr] at CC
       obtain rfl : n = i + 1 + r := by have h1 := HN.out.1; have h2 := HN.out.2; simp at h1; omega
       clear gd hu hv hr
       have ic2 : i + 1 ≤ cap := by have := RS3.out.row.le; have := HN.out.1; omega
       have hA : rest ≠ [] → cap ≠ i + 1 := fun hr e => by
        have h1 := RS3.out.row.le
        rw [HN.out.1] at h1
        have h2 := HRL.out
        have := List.length_pos_iff.2 hr
        omega
       cases u with
       | true =>
         refine wp_region_wd W1 (by kernel_rfl) (by kernel_rfl) (Below.refl _ _).drew ?_
         repeat (go_big_quiet_step ((go_at_call 110; exact Wd.call (CA.out _))))
         refine wd_nil fun nq => ?_
         have RS4 := Hd.mk (RS3.out.up nq.lo)
         have CO := Hd.mk (reduce_others b0 g 0 cap i (kept ++ p' :: rest) nq.w (Nat.le_trans hb0 RS4.out.below.size) RS4.out.row.all (by have := HN.out.1; omega) (by have := HN.out.1; omega))
         rw [HN.out.1, ← HN.out.2, erase_app, HN.out.2] at CO
         have HI3 : Hd (interD kept rest = interD [] done) := ⟨by
          have h1 := HI2.out
          rw [inter_cons] at h1
          rwa [if_pos (by rw [HG.out]; rfl)] at h1⟩
         clear CA CC HI2 HG RS3
         go_wp2_with fail
         refine CO.out.mono ?_
         rintro e w5 ⟨g5, cap5, S5, rfl, hr5, hb5⟩
         have RS5 : Hd (∃ base, Rs b0 base w.heap.size g5 cap5 o w w5 S5 (kept ++ rest)) := ⟨_, goes RS4.out.below hb5, RS4.out.below.size, RS4.out.box.up hb5, hr5⟩
         have HZ3 : Hd (∀ p ∈ kept ++ rest, Mz o p) := ⟨fun p hp => HZ2.out p (by simp only [List.mem_append, List.mem_cons] at hp ⊢; rcases hp with hp | hp <;> simp [hp])⟩
         have HL5 : Hd ((kept ++ rest).length = i + r) := ⟨by rw [List.length_append, HN.out.2, HRL.out]⟩
         clear hr5 hb5 CO HZ2
         go_wp2_with fail
         exact ⟨⟨g5, cap5, S5, kept, rest, by rw [List.length_append], by rw [HN.out.2], by have := HL5.out; omega, RS5, HZ3, HI3⟩, by have h1 := HN.out.2; have h2 := HRL.out; simp only [lenV, intOf, List.length_append]; omega⟩
       | false =>
         refine wp_region_wd W1 (by kernel_rfl) (by kernel_rfl) (Below.refl _ _).drew ?_
         repeat (go_big_quiet_step ((go_at_call 110; first | with_reducible exact Wd.call (CA.out _) | exact Wd.call (CC.out _ _ _ (fun h => if_neg (hA h))))))
         refine wd_nil fun nq => ?_
         generalize (if cap = i + 1 then (some ⟨g, 0, none⟩ : Option Addr) else some ⟨g, i + 1, none⟩) = AA
         cases v with
         | true =>
           have RS4 := Hd.mk (RS3.out.up nq.lo)
           have CO := Hd.mk (reduce_others b0 g 0 cap i (kept ++ p' :: rest) nq.w (Nat.le_trans hb0 RS4.out.below.size) RS4.out.row.all (by have := HN.out.1; omega) (by have := HN.out.1; omega))
           rw [HN.out.1, ← HN.out.2, erase_app, HN.out.2] at CO
           have HI3 : Hd (interD kept rest = interD [] done) := ⟨by
            have h1 := HI2.out
            rw [inter_cons] at h1
            rwa [if_pos (by rw [HG.out]; rfl)] at h1⟩
           clear CA CC HI2 HG RS3
           go_wp2_with fail
           refine CO.out.mono ?_
           rintro e w5 ⟨g5, cap5, S5, rfl, hr5, hb5⟩
           have RS5 : Hd (∃ base, Rs b0 base w.heap.size g5 cap5 o w w5 S5 (kept ++ rest)) := ⟨_, goes RS4.out.below hb5, RS4.out.below.size, RS4.out.box.up hb5, hr5⟩
           have HZ3 : Hd (∀ p ∈ kept ++ rest, Mz o p) := ⟨fun p hp => HZ2.out p (by simp only [List.mem_append, List.mem_cons] at hp ⊢; rcases hp with hp | hp <;> simp [hp])⟩
           have HL5 : Hd ((kept ++ rest).length = i + r) := ⟨by rw [List.length_append, HN.out.2, HRL.out]⟩
           clear hr5 hb5 CO HZ2
           go_wp2_with fail
           exact ⟨⟨g5, cap5, S5, kept, rest, by rw [List.length_append], by rw [HN.out.2], by have := HL5.out; omega, RS5, HZ3, HI3⟩, by have h1 := HN.out.2; have h2 := HRL.out; simp only [lenV, intOf, List.length_append]; omega⟩
         | false =>
           have RS4 := Hd.mk (RS3.out.up nq.lo)
           have HI3 : Hd (interD (kept ++ [p']) rest = interD [] done) := ⟨by
            have h1 := HI2.out
            rw [inter_cons] at h1
            rwa [if_neg (by rw [HG.out]; simp)] at h1⟩
           have ea : kept ++ [p'] ++ rest = kept ++ p' :: rest := by simp
           have RS5 : Hd (∃ base, Rs b0 base w.heap.size g cap o w nq.w S (kept ++ [p'] ++ rest)) := ⟨_, by rw [ea]; exact RS4.out⟩
           have HZ3 : Hd (∀ p ∈ kept ++ [p'] ++ rest, Mz o p) := ⟨by rw [ea]; exact HZ2.out⟩
           have HL5 : Hd ((kept ++ [p'] ++ rest).length = i + 1 + r) := ⟨by rw [ea]; exact HN.out.1⟩
           clear CA CC HI2 HG RS3 ea RS4 HZ2
           go_wp2_with fail
           exact ⟨⟨g, cap, S, kept ++ [p'], rest, by rw [HL5.out], by rw [List.length_append, HN.out.2]; go_num, by rw [HL5.out]; omega, RS5, HZ3, HI3⟩, by simp only [lenV, intOf]; omega⟩
     | nil =>
       rw [List.append_nil] at h12 RS2 HZ2 ⊢
       have i1 : ¬ (kept.length : Int) < kept.length := by omega
       have hF : interD [] done = kept := HI2.out.symm
       have HND : Hd (Nd kept) := ⟨by
        have h1 : ∀ p ∈ done, Pz o p := fun p hp => (HZ1.out p hp).pz
        have := (inter_nd h1).1
        rwa [hF] at this⟩
       rw [hF] at HRD1
       clear HI2 hF
       go_wp2_with fail
       go_loopw [78] (fun v78 wr => ∃ (i : Nat) (S : List SV) (done todo : List (List TermD)), v78 = .int .i64 i ∧ done.length = i ∧ done.length + todo.length = kept.length ∧ Hd (Rs b0 base w.heap.size g cap o w wr S (done ++ todo)) ∧ Hd (∀ p ∈ done ++ todo, CP o p) ∧ Hd (restsD o [] kept = restsD o done todo)) (fun v _ => kept.length - (intOf v).toNat)
       case atStart => exact ⟨0, S, [], kept, rfl, rfl, by simp, RS2, ⟨fun p hp => (HZ2.out p hp).pz.cp⟩, ⟨rfl⟩⟩
       case round =>
        clear RS2
        obtain ⟨i, S, done, todo, rfl, hi, hlen, RS, HC, HM⟩ := hrel
        cases todo with
        | cons p todo =>
          have hlt : i < kept.length := by simp at hlen; omega
          have i1 : (i : Int) < kept.length := by omega
          have i3 : (0 : Int) ≤ i := by omega
          obtain ⟨a, pc, p', hp', hcell, hpc, hrp⟩ := RS.out.row.get (j := i) (by simp; omega)
          have e : p' = p := by
           have := hp'.out
           rw [← hi, getElem_app] at this
           injection this with this
           exact this.symm
          subst e
          have q0 := RS.out.box.one
          have hl2 : (done ++ p' :: todo).length = kept.length := by simp at hlen ⊢; omega
          have CO := Hd.mk (fun W (hB : Below wr.heap.size wr W) => reduce_others b0 g 0 cap i (done ++ p' :: todo) W (Nat.le_trans hb0 (goes RS.out.below hB).size) (RS.out.up hB).row.all (by omega) (by omega))
          rw [hl2, ← hi, erase_app, hi] at CO
          have HCP := Hd.mk (HC.out p' (by simp))
          have HCT : Hd (∀ q ∈ done ++ todo, CP o q) := ⟨fun q hq => HC.out q (by simp only [List.mem_append, List.mem_cons] at hq ⊢; rcases hq with hq | hq <;> simp [hq])⟩
          have CR := Hd.mk (fun W g5 cap5 S5 bs (hB : Below wr.heap.size wr W) (hr5 : RowP W b0 bs g5 cap5 S5 (done ++ todo)) => div_RestF b0 o a (some ⟨g5, 0, none⟩) pc cap5 p' (done ++ todo) W (Nat.le_trans hb0 (goes RS.out.below hB).size) (hrp.out.up hB) hpc (cp_short HCP.out) hr5.all hr5.le ⟨by simp at hlen ⊢; omega, fun q hq => cp_short (HCT.out q hq)⟩)
          have HMS := Hd.mk (HM.out.trans (rests_cons _ _ _ _))
          have HGD := Hd.mk (fun h0 => (splitD_good (p := p') (l := done ++ todo) HCP.out HCT.out h0))
          obtain ⟨E, hE⟩ : ∃ E, splitD o p' (done ++ todo) = E := ⟨_, rfl⟩
          rw [hE] at CR HMS HGD
          have HN := Hd.mk (And.intro hi hlen)
          have SO := Hd.mk (fun W (hB : Below wr.heap.size wr W) => And.intro (Hd.mk hB) (cell_up q0 hB))
          clear hp' hrp hE HM hlen hi hl2 HC
          go_upto_region 23 with (fail)
          clear hcell
          go_region_held3 (fun W => Hd (Below wr.heap.size wr W) ∧ W.cell? ⟨w.heap.size, 0, none⟩ = some (.int .i64 o))
           (first
            | with_reducible exact SO.out _ (.refl _ _)
            | with_reducible exact SO.out _ (Below.refl _ _).drew
            | with_reducible exact SO.out _ hB5
            | with_reducible exact SO.out _ hB6
            | fail)
           (first
            | (go_at_call 111; with_reducible refine (CO.out wr.drew (Below.refl _ _).drew).mono ?_; rintro e w5 ⟨g5, cap5, S5, rfl, hr5, hb5⟩
               have hB5 : Below wr.heap.size wr w5 := (Below.refl wr.heap.size wr).drew.trans hb5
               have CR5 := Hd.mk (CR.out w5 g5 cap5 S5 _ hB5 hr5)
               have hg5 := (RS.out.up hB5).row.row.lt
               rw [List.length_append] at CR5)
            | (go_at_call 112; with_reducible refine CR5.out.mono ?_; rintro e w6 ⟨R6, rc6, rfl, hrc6, hR6, hb6, hf6⟩
               have hB6 : Below wr.heap.size wr w6 := goes hB5 hb6))
          all_goals
           have RS6 := Hd.mk (RS.out.up hB6)
           have HR6 := Hd.mk hR6
           have HC6 := Hd.mk hrc6
           have HN6 := Hd.mk (fr_ne hf6 hg5)
           clear hb5 hr5 hb6 hR6 hrc6 hf6 hg5 CR5 CR CO SO q0 RS hB5 hB6
           by_cases h0 : E.1 = 0
           case neg =>
            have e1 : (E.1 != 0) = true := by rw [bne_iff_ne]; exact h0
            have HE : Hd (RedIs o ps E.1 []) := ⟨by
             have h1 := HMS.out
             rw [if_pos h0] at h1
             exact ⟨by rw [HRD1.out, h1], fun _ => rfl, fun h => absurd h h0⟩⟩
            have H0 := Hd.mk h0
            clear h0 HMS HN HGD
            go_wp2_with fail
            go_ret2
            exact ⟨none, 0, [], E.1, rfl, HE.out, Nat.le_refl _, RPols.nil _ _ _, fun h => absurd h H0.out, RS6.out.below⟩
           have e1 : (E.1 != 0) = false := by rw [bne_eq_false_iff_eq]; exact h0
           have HMS2 := Hd.mk (HMS.out.trans (if_neg (by simpa using h0)))
           have HC7 : Hd (∀ p ∈ done ++ [E.2.2] ++ todo, CP o p) := ⟨fun p hp => by
            obtain ⟨qs, r, er, D⟩ := HGD.out h0
            simp only [List.mem_append, List.mem_singleton] at hp
            rcases hp with (hp | hp) | hp
            ·exact HCT.out p (by simp [hp])
            ·rw [hp, er]; exact D.cr
            ·exact HCT.out p (by simp [hp])⟩
           obtain ⟨a', pc', p2, -, hcell, -, -⟩ := RS6.out.row.get (j := i) (by have := HN.out.1; simp; omega)
           have fz := fun j => RS6.out.row.row.froz j
           have RS7 : Hd (Rs b0 base w.heap.size g cap o w (w6.setCell ⟨g, i, none⟩ (.slice R6 E.2.2.length rc6)) (S.set i (R6, E.2.2.length, rc6)) (done ++ [E.2.2] ++ todo)) := ⟨by
            have := RS6.out.set (j := i) (by have := HN.out.1; simp; omega) HR6.out HC6.out (fun _ => HN6.out)
            rw [← HN.out.1, set_app] at this
            rw [← HN.out.1]
            exact this⟩
           clear h0 HMS HGD HCT HCP
           go_wp2_with fail
           go_roundw
           case measure => first | (simp [intOf]; done) | (simp [intOf]; omega)
           case rel => exact ⟨i + 1, _, done ++ [E.2.2], todo, by go_num, by simp [HN.out.1], by have := HN.out.2; simp at this ⊢; omega, RS7, HC7, HMS2⟩
        | nil =>
          have hie : i = kept.length := by simp at hlen; omega
          subst hie
          have i1 : ¬ (kept.length : Int) < kept.length := by omega
          rw [List.append_nil] at RS HC
          have hd : restsD o [] kept = (0, done) := HM.out
          have HRD2 : Hd (redD o ps = (0, done)) := ⟨by rw [HRD1.out, hd]⟩
          have HPZ2 : Hd (∀ p ∈ done, Pz o p) := ⟨fun p hp => by
           have := rests_ok (o := o) kept [] (fun q hq => (HZ2.out q (by simpa using hq)).pz) (by simpa using HND.out) (fun r hr => by cases hr) (by rw [hd])
           rw [hd] at this
           exact (this.2 p hp).1⟩
          have CT := Hd.mk (sort_polys o HO.out b0 base g w.heap.size cap S done wr RS.out.row HPZ2.out (by omega) RS.out.box.one RS.out.ne)
          have HL3 : Hd (done.length = kept.length) := ⟨hi⟩
          rw [hi] at CT
          clear hd HM hlen hi HC HRD1 HND HZ2
          go_wp2_with fail
          refine CT.out.mono ?_
          rintro e w7 ⟨rfl, S7, ps7, hp7, hs7, hr7, w8, hg8, hb8⟩
          have HB7 := Hd.mk (goes (RS.out.below.grown hg8 RS.out.below.size fun k e => by injection e with e; subst e; exact Nat.le_trans RS.out.bb RS.out.row.row.base) hb8)
          have HE : Hd (RedIs o ps 0 ps7) := ⟨by rw [HRD2.out], fun h => absurd rfl h, fun _ => ⟨by rw [HRD2.out]; exact hp7, hs7⟩⟩
          have HR7 := Hd.mk hr7
          have HL7 : Hd (ps7.length = kept.length) := ⟨by rw [hp7.length_eq]; exact HL3.out⟩
          clear hp7 hs7 hr7 hg8 hb8 CT RS
          go_wp2_with fail
          go_ret2
          refine ⟨some ⟨g, 0, none⟩, cap, ps7, 0, by rw [HL7.out]; rfl, HE.out, HR7.out.le, HR7.out.all, fun _ => ⟨g, rfl⟩, HB7.out⟩
end Go.Proofs.YtgjkgkgieeoalaaGreat
