/- Parts of the proof, joined: each theorem says what it shows. -/
import Derived.Test.YtgjkgkgieeoalaaGreatC40
import Derived.Test.YtgjkgkgieeoalaaGreatC41
set_option linter.unusedVariables false
set_option linter.unusedSimpArgs false
set_option maxHeartbeats 24000000
set_option maxRecDepth 100000
namespace Go.Proofs.YtgjkgkgieeoalaaGreat
open Go.RowKit
theorem made14_call {o : Int} (ho : oOk o) {w : World} {A B : Option Addr} {c d : Nat} {ns : List Int} {ms : List (Int × Int × Int)} (h : RSm w A c B d ns ms) :
    ∃ P, SmP o P ∧ ∀ W, Below w.heap.size w W → Calls Tryz.prog 38 #[.int .i64 o, .agg #[.slice A ns.length c, .slice B ms.length d]] W fun e w' => ∃ A' c', e = .returned (.slice A' P.length c') ∧
     P.length ≤ c' ∧ RPol w' w.heap.size A' P ∧ Below W.heap.size W w' :=
 ⟨_, madeQ_sm ho h, fun W hB => law14_made w.heap.size o A B c d ns ms W hB.size (h.up hB)⟩
theorem red_cp {o : Int} {l R : List (List TermD)} (h : ∀ p ∈ l, CP o p) (hR : RedIs o l 0 R) : (∀ p ∈ R, CP o p) ∧ R.length ≤ l.length := by
 obtain ⟨e1, _, e2⟩ := hR
 obtain ⟨p1, s1⟩ := e2 rfl
 obtain ⟨F, _, hm, e⟩ := red_form h e1.symm
 have FR := F.perm p1
 refine ⟨fun p hp => (FR.mz p hp).pz.cp, ?_⟩
 have e1 := congrArg List.length e
 rw [List.length_map, List.length_map] at e1
 have e2 := congrArg List.length (monics_ok (full_pz h) hm).2
 rw [List.length_map, List.length_map] at e2
 have e3 := (inter_sub (monicsD o (fullD l)).2 []).length_le
 rw [List.nil_append] at e3
 have e4 : (fullD l).length ≤ l.length := List.length_filter_le _ _
 rw [p1.length_eq]
 omega
theorem same_lists {b0 : Nat} {A B : Option Addr} {c d : Nat} {R : List (List TermD)} {w : World} (h : RPols w b0 A R) (hs : shortPs R) (h' : RPols w b0 B R) :
    Calls Tryz.prog 41 #[.slice A R.length c, .slice B R.length d] w fun e w' => e = .returned (.bool true) ∧ Below w.heap.size w w' := by
 have := same_list b0 A B c d R R w h hs h' hs
 rwa [decide_eq_true rfl] at this
theorem law_ReduceIs (a0 : Int) (SC SD SE SF SG SH : Option Addr) (sc sd se sf sg sh : Nat) (ns' ns'' ns3 : List Int) (ms' ms'' ms3 : List (Int × Int × Int)) (w : World) (h0 : 0 ≤ a0) (h1 : a0 ≤ 255) (h' : RSm w SC sc SD sd ns' ms') (h'' : RSm w SE se SF sf ns'' ms'') (h3 : RSm w SG sg SH sh ns3 ms3) :
    Calls Tryz.prog 9 #[.int .u8 a0, .agg #[.slice SC ns'.length sc, .slice SD ms'.length sd, .slice SE ns''.length se, .slice SF ms''.length sf, .slice SG ns3.length sg, .slice SH ms3.length sh]] w fun e w' => e = .returned (.bool true) ∧ Below w.heap.size w w' := by
 have ho := oOk_mod3 h0
 obtain ⟨o, rO⟩ : ∃ o, a0 % 3 = o := ⟨_, rfl⟩
 rw [rO] at ho
 obtain ⟨Q, hQ, CM'⟩ := made14_call ho h'
 obtain ⟨R, hR, CM''⟩ := made14_call ho h''
 obtain ⟨S, hS, CM3⟩ := made14_call ho h3
 have CQ := Hd.mk CM'
 have CR := Hd.mk CM''
 have CT := Hd.mk CM3
 have HQ := Hd.mk hQ
 have HR := Hd.mk hR
 have HS := Hd.mk hS
 have CS := Hd.mk law14_shown
 have HO := Hd.mk ho
 clear h' h'' h3 CM' CM'' CM3 hQ hR hS ho
 go_enter Tryz.func9, Tryz.ntmps9
 go_upto_region 1 with (fail)
 refine wp_gen (fun W => Bo1 w.heap.size w.heap.size w W 84 #[.slice SC ns'.length sc, .slice SD ms'.length sd, .slice SE ns''.length se, .slice SF ms''.length sf, .slice SG ns3.length sg, .slice SH ms3.length sh]) (Bo1.mk1 w _ _) ?_
 intro W BX
 have SO := Hd.mk (fun W' (hB : Bo1 w.heap.size w.heap.size w W' 84 #[.slice SC ns'.length sc, .slice SD ms'.length sd, .slice SE ns''.length se, .slice SF ms''.length sf, .slice SG ns3.length sg, .slice SH ms3.length sh]) => And.intro (Hd.mk hB) hB.k1.six')
 have HCP : Hd (∀ p ∈ [Q, R, S], CP o p) := ⟨mem3 HQ.out.cp HR.out.cp HS.out.cp⟩
 have CD := Hd.mk (fun (W : World) (A B C : Option Addr) (c d e : Nat) (hb : w.heap.size ≤ W.heap.size) (hq : RPol W w.heap.size A Q) (hr : RPol W w.heap.size B R) (hs : RPol W w.heap.size C S) (hc : Q.length ≤ c) (hd : R.length ≤ d) (he : S.length ≤ e) =>
  reduce_Reduced w.heap.size W.heap.size 0 3 o [Q, R, S] (W.alloc (Obj.cells #[.slice A Q.length c, .slice B R.length d, .slice C S.length e] 25)) HO.out (Nat.le_trans hb (below1 _ _).size) (rpols_bk3 (Bk.new_ _ _ _) (hq.up (below1 _ _)) (hr.up (below1 _ _)) (hs.up (below1 _ _)) hc hd he) HCP.out (by simp))
 dsimp only [List.length_cons, List.length_nil] at CD
 obtain ⟨l, hL⟩ : ∃ l, [Q, R, S] = l := ⟨_, rfl⟩
 rw [hL] at CD HCP
 have hll : l.length = 3 := by rw [← hL]; rfl
 have HLL := Hd.mk hll
 clear hL hll HQ HR HS
 go_wp2_with fail
 go_region_held3 (fun w' => Hd (Bo1 w.heap.size w.heap.size w w' 84 #[.slice SC ns'.length sc, .slice SD ms'.length sd, .slice SE ns''.length se, .slice SF ms''.length sf, .slice SG ns3.length sg, .slice SH ms3.length sh]) ∧ (w'.cell? ⟨w.heap.size, 0, none⟩ = some (.slice SC ns'.length sc) ∧ w'.cell? ⟨w.heap.size, 1, none⟩ = some (.slice SD ms'.length sd) ∧ w'.cell? ⟨w.heap.size, 2, none⟩ = some (.slice SE ns''.length se) ∧ w'.cell? ⟨w.heap.size, 3, none⟩ = some (.slice SF ms''.length sf) ∧ w'.cell? ⟨w.heap.size, 4, none⟩ = some (.slice SG ns3.length sg) ∧ w'.cell? ⟨w.heap.size, 5, none⟩ = some (.slice SH ms3.length sh)))
  (first
   | with_reducible exact SO.out _ BX.out
   | with_reducible exact SO.out _ BX.out.d1
   | with_reducible exact SO.out _ BX2.out
   | with_reducible exact SO.out _ BX3.out
   | with_reducible exact SO.out _ BX4.out
   | with_reducible exact SO.out _ (BX4.out.al _)
   | with_reducible exact SO.out _ BX5.out
   | fail)
  (first
   | (go_at_call 38; with_reducible refine (CQ.out _ BX.out.d1.below).mono ?_; rintro e w2 ⟨A2, c2, rfl, hc2, hr, hb⟩
      have BX2 := Hd.mk (BX.out.d1.up hb)
      have HQ2 := Hd.mk hr
      clear hr)
   | (go_at_call 38; with_reducible refine (CR.out _ BX2.out.below).mono ?_; rintro e w3 ⟨A3, c3, rfl, hc3, hr, hb⟩
      have BX3 := Hd.mk (BX2.out.up hb)
      have HQ3 := Hd.mk (HQ2.out.up hb)
      have HR3 := Hd.mk hr
      clear hr)
   | (go_at_call 38; with_reducible refine (CT.out _ BX3.out.below).mono ?_; rintro e w4 ⟨A4, c4, rfl, hc4, hr, hb⟩
      have BX4 := Hd.mk (BX3.out.up hb)
      have HQ4 := Hd.mk (HQ3.out.up hb)
      have HR4 := Hd.mk (HR3.out.up hb)
      have HS4 := Hd.mk hr
      clear hr)
   | (go_at_call 37; with_reducible refine (CD.out w4 A2 A3 A4 c2 c3 c4 BX4.out.below.size HQ4.out HR4.out HS4.out hc2 hc3 hc4).mono ?_; rintro e w5 ⟨A5, c5, T, E, rfl, hred, hc5, hr, hg, hb⟩
      have BX5 := Hd.mk ((BX4.out.al _).up hb)
      have HT5 := Hd.mk hr
      have HRED := Hd.mk hred
      have HG := Hd.mk hg
      clear hr hred hg)
   | fail)
 all_goals
  have HB5 := Hd.mk BX5.out.below
  clear BX BX2 BX3 BX4 BX5 HQ2 HQ3 HR3 HQ4 HR4 HS4 CQ CR CT SO CD
  go_wp2_with fail
  refine (CS.out _).mono ?_
  rintro e w6 ⟨rfl, hb⟩
  have HB6 := Hd.mk (goes HB5.out hb)
  have HT6 := Hd.mk (HT5.out.up hb)
  clear hb HB5 HT5
  by_cases hE : E = 0
  case neg =>
   have e1 : (E != 0) = true := by rw [bne_iff_ne]; exact hE
   have e2 : ((T.length : Int) == 0) = true := by rw [HRED.out.2.1 hE]; rfl
   clear hE HRED HG HT6
   go_wp2_with fail
   refine (CS.out _).mono ?_
   rintro e w7 ⟨rfl, hb⟩
   have HB7 := Hd.mk (goes HB6.out hb)
   clear hb
   go_wp2_with fail
   go_ret
   exact ⟨rfl, HB7.out⟩
  obtain ⟨g, rfl⟩ := HG.out hE
  have e1 : (E != 0) = false := by rw [hE]; rfl
  have HRED0 : Hd (RedIs o l 0 T) := ⟨by rw [← hE]; exact HRED.out⟩
  obtain ⟨tc, tl⟩ := red_cp HCP.out HRED0.out
  have HTL : Hd (T.length ≤ 3) := ⟨by rw [← HLL.out]; exact tl⟩
  have HTS : Hd (shortPs T) := ⟨by have := HTL.out; omega, fun p hp => cp_short (tc p hp)⟩
  have CR := Hd.mk (reduce_Reduced w.heap.size g 0 c5 o T w6 HO.out HB6.out.size HT6.out tc (by have := HTL.out; omega))
  clear hE HG HRED tl tc
  go_wp2_with fail
  refine CR.out.mono ?_
  rintro e w7 ⟨A7, c7, M, F, rfl, hred, -, hr, -, hb⟩
  obtain ⟨rfl, rfl, hle, -, -⟩ := reduce_is HO.out HCP.out HRED0.out hred
  have HB7 := Hd.mk (goes HB6.out hb)
  have HT7 := Hd.mk (HT6.out.up hb)
  have HM7 := Hd.mk hr
  have CL := Hd.mk (ref14_Leads w.heap.size o (some ⟨g, 0, none⟩) c5 M w7 HB7.out.size HT7.out (by have := HTL.out; omega) HTS.out.2 hle)
  clear hb hr hred hle CR
  go_wp2_with fail
  refine CL.out.mono ?_
  rintro e w8 ⟨rfl, hb⟩
  have HB8 := Hd.mk (goes HB7.out hb)
  have CE := Hd.mk (same_lists (c := c5) (d := c7) (HT7.out.up hb) HTS.out (HM7.out.up hb))
  clear hb CL
  go_wp2_with fail
  refine CE.out.mono ?_
  rintro e w9 ⟨rfl, hb⟩
  have HB9 := Hd.mk (goes HB8.out hb)
  clear hb
  go_wp2_with fail
  go_ret
  exact ⟨rfl, HB9.out⟩
end Go.Proofs.YtgjkgkgieeoalaaGreat
