/- Parts of the proof, joined: each theorem says what it shows. -/
import Derived.Test.YtgjkgkgieeoalaaGreatE01
import Derived.Test.YtgjkgkgieeoalaaGreatE29
import Derived.Test.YtgjkgkgieeoalaaGreatE30
import Derived.Test.YtgjkgkgieeoalaaGreatE03
import Derived.Test.YtgjkgkgieeoalaaGreatE23
import Derived.Test.YtgjkgkgieeoalaaGreatE19
import Derived.Test.YtgjkgkgieeoalaaGreatE12
import Derived.Test.YtgjkgkgieeoalaaGreatE06
set_option linter.unusedVariables false
set_option linter.unusedSimpArgs false
set_option maxHeartbeats 24000000
set_option maxRecDepth 100000
namespace Go.Proofs.YtgjkgkgieeoalaaGreat
open Go.RowKit
open Go.Sort hiding Below
abbrev SV := Option Addr × Nat × Nat
def encS (x : SV) : Value := .slice x.1 x.2.1 x.2.2
theorem encS_one : OneCell encS := fun _ => rfl
structure RowS (w : World) (base g cap : Nat) (S : List SV) : Prop where
 bk : ∃ cs : Array Value, Bk w g 25 cs ∧ ∀ (j : Nat) (x : SV), S[j]? = some x → cs[j]? = some (encS x)
 base : base ≤ g
 le : S.length ≤ cap
 cap : cap ≤ maxLen
section
variable {w w' : World} {base g cap b0 : Nat} {S S' : List SV} {ps : List (List TermD)}
theorem RowS.lt (h : RowS w base g cap S) : g < w.heap.size := let ⟨_, hk, _⟩ := h.bk; hk.lt
theorem RowS.up (h : RowS w base g cap S) (hb : Below w.heap.size w w') : RowS w' base g cap S := let ⟨cs, hk, hc⟩ := h.bk; ⟨⟨cs, hk.up hb, hc⟩, h.base, h.le, h.cap⟩
theorem RowS.cell (h : RowS w base g cap S) {j : Nat} {x : SV} (hj : S[j]? = some x) : w.cell? ⟨g, j, none⟩ = some (encS x) := by
 obtain ⟨cs, hk, hc⟩ := h.bk
 rw [hk.cell]; exact hc j x hj
theorem RowS.froz (h : RowS w base g cap S) (j : Nat) : w.frozen? ⟨g, j, none⟩ = false := let ⟨_, hk, _⟩ := h.bk; hk.froz j
theorem RowS.holds (h : RowS w base g cap S) : Holds encS w g 0 S.toArray := fun j hj => by
 have hj' : j < S.length := by simpa using hj
 rw [Nat.zero_add]
 refine ⟨?_, h.froz j⟩
 rw [h.cell (ai hj')]
 congr 2
 rw [getElem!_pos _ j hj]; simp
theorem RowS.of_own {n : Nat} {cs : List Value} (h : w.ownsRow base 25 1 (.slice (some ⟨g, 0, none⟩) n cap) n cs) (hS : cs = S.map encS) : RowS w base g cap S := by
 have hn : S.length = n := by have := h.1; rw [hS, List.length_map] at this; omega
 rcases h.2 with ⟨e, _⟩ | ⟨g', cap', cur, e, h2, h3, h4, h5, h6, h7⟩
 ·cases e
 ·injection e with e1 e2 e3
  injection e1 with e1
  injection e1 with e1
  subst e1 e3
  refine ⟨⟨cur, h3, fun j x hj => ?_⟩, h2, by omega, h5⟩
  have hj2 : j < n := by rw [← hn]; exact (List.getElem?_eq_some_iff.1 hj).1
  have e2 : (cs)[j]? = some (encS x) := by rw [hS, List.getElem?_map, hj]; rfl
  rw [← h7, List.getElem?_take, if_pos (by omega)] at e2
  simpa using e2
theorem RowS.set (h : RowS w base g cap S) {j : Nat} (hj : j < S.length) (x : SV) : RowS (w.setCell ⟨g, j, none⟩ (encS x)) base g cap (S.set j x) := by
 obtain ⟨cs, hk, hc⟩ := h.bk
 refine ⟨⟨_, hk.set_ j (encS x), fun i y hy => ?_⟩, h.base, by rw [List.length_set]; exact h.le, h.cap⟩
 have hjc : j < cs.size := by
  have := hc j _ (ai hj)
  exact (Array.getElem?_eq_some_iff.1 this).1
 rw [Array.getElem?_setIfInBounds]
 by_cases e : j = i
 ·subst e
  rw [List.getElem?_set_self hj] at hy
  injection hy with hy
  rw [if_pos rfl, if_pos hjc, hy]
 ·rw [List.getElem?_set_ne e] at hy
  rw [if_neg e]; exact hc i y hy
theorem put_grown (w : World) (g q : Nat) (d : Array SV) : w.grownBy (putRow encS (Go.Sort.ahead w q) g 0 d) (some g) := by
 refine ⟨rfl, rfl, rfl, ?_, fun k hk hne => ?_⟩
 ·simp [putRow, mapBlock, Go.Sort.ahead]
 ·simp only [putRow, mapBlock, Go.Sort.ahead]
  rw [Array.getElem?_modify, if_neg (fun e => hne (by rw [e]))]
theorem RowS.put (h : RowS w base g cap S) (q : Nat) (d : Array SV) (hd : ∀ (j : Nat) (x : SV), S'[j]? = some x → d[j]? = some x) (hl : S'.length ≤ S.length) : RowS (putRow encS (Go.Sort.ahead w q) g 0 d) base g cap S' := by
 obtain ⟨cs, hk, hc⟩ := h.bk
 refine ⟨⟨putCells encS 0 d cs, ?_, fun j x hj => ?_⟩, h.base, ah hl h.le, h.cap⟩
 ·unfold Bk at hk ⊢
  simp only [putRow, mapBlock, Go.Sort.ahead]
  rw [Array.getElem?_modify, if_pos rfl, hk]
  rfl
 ·have h1 := hd j x hj
  have hj1 : j < S'.length := (List.getElem?_eq_some_iff.1 hj).1
  have hjc : j < cs.size := by
   have := hc j _ (ai (Nat.lt_of_lt_of_le hj1 hl))
   exact (Array.getElem?_eq_some_iff.1 this).1
  obtain ⟨hjd, h2⟩ := Array.getElem?_eq_some_iff.1 h1
  unfold putCells
  rw [Array.getElem?_mapIdx, Array.getElem?_eq_getElem hjc, Option.map_some, if_pos ⟨Nat.zero_le _, by omega⟩, Nat.sub_zero, getElem!_pos d j hjd, h2]
structure RowP (w : World) (b0 base g cap : Nat) (S : List SV) (ps : List (List TermD)) : Prop where
 row : RowS w base g cap S
 len : S.length = ps.length
 low : b0 ≤ base
 each : ∀ (j : Nat) (p : List TermD), ps[j]? = some p → ∃ a c, S[j]? = some (a, p.length, c) ∧ p.length ≤ c ∧ RPol w b0 a p ∧ (p ≠ [] → ∀ ad, a = some ad → ad.block ≠ g)
theorem RowP.up (h : RowP w b0 base g cap S ps) (hb : Below w.heap.size w w') : RowP w' b0 base g cap S ps :=
 ⟨h.row.up hb, h.len, h.low, fun j p hj => let ⟨a, c, h1, h2, h3, h4⟩ := h.each j p hj; ⟨a, c, h1, h2, h3.up hb, h4⟩⟩
theorem RowP.le (h : RowP w b0 base g cap S ps) : ps.length ≤ cap := h.len ▸ h.row.le
theorem RowP.rok (h : RowP w b0 base g cap S ps) : Rok w b0 (some g) := fun k e => by
 injection e with e
 subst e
 obtain ⟨cs, hk, _⟩ := h.row.bk
 exact ⟨ah h.low h.row.base, _, _, hk, by decide⟩
theorem RowP.part (h : RowP w b0 base g cap S ps) {i n : Nat} (hn : i + n ≤ ps.length) : RPols w b0 (some ⟨g, i, none⟩) ((ps.drop i).take n) := by
 have hl : ((ps.drop i).take n).length = n := by simp; omega
 refine ⟨(S.drop i).take n |>.map encS, ⟨by simp only [List.length_map, List.length_take, List.length_drop, h.len, Nat.mul_one], fun hpos => ⟨_, rfl, h.row.lt, fun j u hu => ?_⟩⟩, fun j p hj => ?_⟩
 ·rw [List.getElem?_map] at hu
  cases hx : ((S.drop i).take n)[j]? with
  | none => rw [hx] at hu; cases hu
  | some x =>
    rw [hx] at hu
    injection hu with hu
    rw [List.getElem?_take] at hx
    split at hx
    ·rw [List.getElem?_drop] at hx
     rw [add_win, h.row.cell hx, ← hu]
    ·cases hx
 ·rw [List.getElem?_take] at hj
  split at hj
  ·rename_i hjn
   rw [List.getElem?_drop] at hj
   obtain ⟨a, c, h1, h2, h3, _⟩ := h.each _ p hj
   exact ⟨a, c, by rw [List.getElem?_map, List.getElem?_take, if_pos hjn, List.getElem?_drop, h1]; rfl, h2, h3⟩
  ·cases hj
theorem RowP.all (h : RowP w b0 base g cap S ps) : RPols w b0 (some ⟨g, 0, none⟩) ps := by
 have := h.part (i := 0) (n := ps.length) (by omega)
 simpa using this
theorem RowP.get (h : RowP w b0 base g cap S ps) {j : Nat} (hj : j < ps.length) : ∃ a c p, Hd (ps[j]? = some p) ∧ w.cell? ⟨g, j, none⟩ = some (.slice a p.length c) ∧ p.length ≤ c ∧ Hd (RPol w b0 a p) := by
 obtain ⟨a, c, h1, h2, h3, _⟩ := h.each j _ (ai hj)
 exact ⟨a, c, ps[j], ⟨ai hj⟩, h.row.cell h1, h2, ⟨h3⟩⟩
theorem RowP.keep (h : RowP w b0 base g cap S ps) (hg : w.grownBy w' (some g)) {a : Option Addr} {p : List TermD} (hr : RPol w b0 a p) (hne : p ≠ [] → ∀ ad, a = some ad → ad.block ≠ g) : RPol w' b0 a p :=
 hr.grown hg (fun hn ad e e2 => by injection e2 with e2; exact hne hn ad e e2.symm) h.rok
theorem RowP.set (h : RowP w b0 base g cap S ps) {j : Nat} (hj : j < ps.length) {a : Option Addr} {c : Nat} {p : List TermD} (hr : RPol w b0 a p) (hc : p.length ≤ c) (hne : p ≠ [] → ∀ ad, a = some ad → ad.block ≠ g) :
    RowP (w.setCell ⟨g, j, none⟩ (.slice a p.length c)) b0 base g cap (S.set j (a, p.length, c)) (ps.set j p) := by
 have hg := set_grown w ⟨g, j, none⟩ (.slice a p.length c)
 refine ⟨h.row.set (by rw [h.len]; exact hj) (a, p.length, c), by rw [List.length_set, List.length_set, h.len], h.low, fun i q hi => ?_⟩
 by_cases e : j = i
 ·subst e
  rw [List.getElem?_set_self hj] at hi
  injection hi with hi
  subst hi
  exact ⟨a, c, List.getElem?_set_self (by rw [h.len]; exact hj), hc, h.keep hg hr hne, hne⟩
 ·rw [List.getElem?_set_ne e] at hi
  obtain ⟨a', c', h1, h2, h3, h4⟩ := h.each i q hi
  exact ⟨a', c', by rw [List.getElem?_set_ne e]; exact h1, h2, h.keep hg h3 h4, h4⟩
theorem RowP.put (h : RowP w b0 base g cap S ps) (q : Nat) (d : Array SV) {qs : List (List TermD)} (hd : ∀ (j : Nat) (x : SV), S'[j]? = some x → d[j]? = some x) (hl : S'.length ≤ S.length) (hq : S'.length = qs.length)
    (hm : ∀ (j : Nat) (p : List TermD), qs[j]? = some p → ∃ i : Nat, ps[i]? = some p ∧ S'[j]? = S[i]?) : RowP (putRow encS (Go.Sort.ahead w q) g 0 d) b0 base g cap S' qs :=
 ⟨h.row.put q d hd hl, hq, h.low, fun j p hj => by
  obtain ⟨i, h1, h2⟩ := hm j p hj
  obtain ⟨a, c, h3, h4, h5, h6⟩ := h.each i p h1
  exact ⟨a, c, h2.trans h3, h4, h.keep (put_grown w g q d) h5 h6, h6⟩⟩
end
def unS : Value → SV
 | .slice a n c => (a, n, c)
 | _ => (none, 0, 0)
theorem Tryz.zvPoly (w : World) : (zeroValue 25).run Tryz.prog w = .ok (encS (none, 0, 0)) w := Tryz.zeroValue25 w
theorem polys_Clone (b0 b off c : Nat) (ps : List (List TermD)) (w : World) (hb0 : b0 ≤ w.heap.size) (h : RPols w b0 (some ⟨b, off, none⟩) ps) (hn : ps.length ≤ 1000) :
    Calls Tryz.prog 185 #[.slice (some ⟨b, off, none⟩) ps.length c] w fun e w' => ∃ g cap S, e = .returned (.slice (some ⟨g, 0, none⟩) ps.length cap) ∧ RowP w' b0 w.heap.size g cap S ps ∧ Below w.heap.size w w' := by
 obtain ⟨i0, hi, hz0, hz1, hz2⟩ := info_split Tryz.infPoly
 obtain ⟨cs, h1, h2⟩ := h
 have hcs : cs = (cs.map unS).map encS := by
  rw [List.map_map]
  refine (List.map_id _).symm.trans (List.map_congr_left fun u hu => ?_)
  obtain ⟨j, hj, rfl⟩ := List.getElem_of_mem hu
  have hj2 : j < ps.length := by have := h1.1; omega
  obtain ⟨a, c', e, _⟩ := h2 j _ (ai hj2)
  rw [ai hj] at e
  injection e with e
  rw [id, e]; rfl
 have hone : ∀ u ∈ cs, u.oneCell' = true := fun u hu => by
  rw [hcs] at hu
  obtain ⟨x, _, rfl⟩ := List.mem_map.1 hu
  rfl
 have hcell : ∀ (j : Nat) (u : Value), cs[j]? = some u → w.cell? ⟨b, off + j, none⟩ = some u := fun j u hu => by
  have hpos : 0 < ps.length := by
   have h3 := (List.getElem?_eq_some_iff.1 hu).1
   have := h1.1
   omega
  obtain ⟨ad, e, _, hc⟩ := h1.2 hpos
  injection e with e
  subst e
  have := hc j u hu
  rwa [add_win] at this
 refine (Tryz.slices_Clone_f185 i0 _ 1 24 hi hz0 hz1 hz2 rfl (by decide) Tryz.sizeOf25 b off ps.length c cs w h1.1 (by unfold maxLen; omega) (by omega) hcell hone).mono ?_
 rintro e w' ⟨v, rfl, ho, hnil, hb⟩
 obtain ⟨g, cap, rfl⟩ : ∃ g cap, v = .slice (some ⟨g, 0, none⟩) ps.length cap := by
  rcases ho.2 with ⟨e, _⟩ | ⟨g, cap, _, e, _⟩
  ·exact absurd e hnil
  ·exact ⟨g, cap, e⟩
 have hrow := RowS.of_own ho hcs
 refine ⟨g, cap, cs.map unS, rfl, ⟨hrow, by rw [List.length_map]; have := h1.1; omega, hb0, fun j p hj => ?_⟩, hb⟩
 obtain ⟨a, c', e, h3, h4⟩ := h2 j p hj
 refine ⟨a, c', by rw [List.getElem?_map, e]; rfl, h3, h4.up hb, fun hne ad ea e2 => ?_⟩
 have h5 := h4.at0 hne ad ea
 have h6 := hrow.base
 omega
theorem polys_Delete (b0 base g cap i : Nat) (S : List SV) (ps : List (List TermD)) (w : World) (h : RowP w b0 base g cap S ps) (hi : i < ps.length) :
    Calls Tryz.prog 188 #[.slice (some ⟨g, 0, none⟩) ps.length cap, .int .i64 i, .int .i64 ((i + 1 : Nat) : Int)] w fun e w' => ∃ S', e = .returned (.slice (some ⟨g, 0, none⟩) (ps.eraseIdx i).length cap) ∧ RowP w' b0 base g cap S' (ps.eraseIdx i) ∧ w.grownBy w' (some g) := by
 obtain ⟨i0, hi0, hz0, hz1, hz2⟩ := info_split Tryz.infPoly
 have hS := h.len
 have hd := Tryz.slices_Delete encS encS_one (none, 0, 0) Tryz.zvPoly i0 hi0 hz1 g 0 cap i (i + 1) S.toArray w h.row.holds (by simpa using h.row.le) h.row.cap (Nat.le_succ _) (by simp; omega)
 rw [List.size_toArray, hS] at hd
 refine hd.mono ?_
 rintro e w' ⟨rfl, q, rfl⟩
 have he : S.eraseIdx i = S.take i ++ S.drop (i + 1) := List.eraseIdx_eq_take_drop_succ ..
 have hl1 : (ps.eraseIdx i).length = ps.length - 1 := by rw [List.length_eraseIdx, if_pos hi]
 have hl2 : (S.eraseIdx i).length = S.length - 1 := by rw [List.length_eraseIdx, if_pos (by omega)]
 refine ⟨S.eraseIdx i, by rw [hl1, show i + 1 - i = 1 by omega], h.put (S' := S.eraseIdx i) (qs := ps.eraseIdx i) q _ (fun j x hj => ?_) (by omega) (by omega) (fun j p hj => ?_), put_grown w g q _⟩
 ·have hjl := (List.getElem?_eq_some_iff.1 hj).1
  rw [List.getElem?_toArray, ← he, List.getElem?_append_left hjl]
  exact hj
 ·rw [List.getElem?_eraseIdx] at hj
  by_cases hji : j < i
  ·rw [if_pos hji] at hj
   exact ⟨j, hj, by rw [List.getElem?_eraseIdx, if_pos hji]⟩
  ·rw [if_neg hji] at hj
   exact ⟨j + 1, hj, by rw [List.getElem?_eraseIdx, if_neg hji]⟩
theorem reduce_others (b0 b off c i : Nat) (ps : List (List TermD)) (w : World) (hb0 : b0 ≤ w.heap.size) (h : RPols w b0 (some ⟨b, off, none⟩) ps) (hn : ps.length ≤ 1000) (hi : i < ps.length) :
    Calls Tryz.prog 111 #[.slice (some ⟨b, off, none⟩) ps.length c, .int .i64 i] w fun e w' => ∃ g cap S, e = .returned (.slice (some ⟨g, 0, none⟩) (ps.eraseIdx i).length cap) ∧ RowP w' b0 w.heap.size g cap S (ps.eraseIdx i) ∧ Below w.heap.size w w' := by
 have CC := aa (polys_Clone b0 b off c ps w hb0 h hn)
 have HI := aa hi
 clear h
 go_enter Tryz.func111, Tryz.ntmps111
 go_wp2_with fail
 refine CC.out.mono ?_
 rintro e w2 ⟨g, cap, S, rfl, hr, hb⟩
 have CD := aa (polys_Delete b0 w.heap.size g cap i S ps w2 hr HI.out)
 have HB := aa hb
 have HR := aa hr
 clear CC hr hb
 rw [show (((i + 1 : Nat) : Int)) = (i : Int) + 1 by omega] at CD
 go_wp2_with fail
 refine CD.out.mono ?_
 rintro e w3 ⟨S', rfl, hr, hg⟩
 have HR3 := aa hr
 have HB3 := aa (HB.out.grown hg HB.out.size fun k e => by injection e with e; subst e; exact HR.out.row.base)
 clear hr hg CD
 go_wp2_with fail
 go_ret
 exact ⟨g, cap, S', rfl, HR3.out, HB3.out⟩
theorem full_1 (x : SV) (W : World) : FnGives Tryz.prog 186 #[] #[encS x] (.bool (decide (x.2.1 = 0))) W := by
 obtain ⟨a, n, c⟩ := x
 unfold FnGives
 show Calls Tryz.prog 186 #[.slice a n c] W _
 by_cases h : n = 0
 ·have e : ((n : Int) == 0) = true := by rw [h]; rfl
  go_enter Tryz.func186, Tryz.ntmps186
  go_wp2_with fail
  go_ret
  exact ⟨by rw [decide_eq_true h]; rfl, 0, rfl⟩
 ·have e : ((n : Int) == 0) = false := by rw [beq_eq_false_iff_ne]; omega
  go_enter Tryz.func186, Tryz.ntmps186
  go_wp2_with fail
  go_ret
  exact ⟨by rw [decide_eq_false h]; rfl, 0, rfl⟩
theorem filt_pair {α β : Type} {f : α → Bool} {f' : β → Bool} : ∀ {S : List α} {ps : List β}, S.length = ps.length → (∀ (j : Nat) x p, S[j]? = some x → ps[j]? = some p → f x = f' p) →
    (S.filter f).length = (ps.filter f').length ∧ ∀ (j : Nat) p, (ps.filter f')[j]? = some p → ∃ i : Nat, ps[i]? = some p ∧ (S.filter f)[j]? = S[i]?
 | [], [], _, _ => ⟨rfl, fun j p h => by simp at h⟩
 | [], _ :: _, h, _ => by simp at h
 | _ :: _, [], h, _ => by simp at h
 | x :: S, p :: ps, h, hf => by
   have e := hf 0 x p rfl rfl
   obtain ⟨i1, i2⟩ := filt_pair (f := f) (f' := f') (S := S) (ps := ps) (by simpa using h) fun j y q hy hq => hf (j + 1) y q (by simpa using hy) (by simpa using hq)
   cases hp : f' p
   ·rw [hp] at e
    rw [List.filter_cons_of_neg (by rw [e]; simp), List.filter_cons_of_neg (by rw [hp]; simp)]
    exact ⟨i1, fun j q hq => let ⟨i, a, b⟩ := i2 j q hq; ⟨i + 1, by simpa using a, by simpa using b⟩⟩
   ·rw [hp] at e
    rw [List.filter_cons_of_pos e, List.filter_cons_of_pos hp]
    refine ⟨by simp [i1], fun j q hq => ?_⟩
    cases j with
    | zero => exact ⟨0, by simpa using hq, rfl⟩
    | succ j =>
      obtain ⟨i, a, b⟩ := i2 j q (by simpa using hq)
      exact ⟨i + 1, by simpa using a, by simpa using b⟩
theorem reduce_full (b0 b off c : Nat) (ps : List (List TermD)) (w : World) (hb0 : b0 ≤ w.heap.size) (h : RPols w b0 (some ⟨b, off, none⟩) ps) (hn : ps.length ≤ 1000) :
    Calls Tryz.prog 105 #[.slice (some ⟨b, off, none⟩) ps.length c] w fun e w' => ∃ g cap S, e = .returned (.slice (some ⟨g, 0, none⟩) (fullD ps).length cap) ∧ RowP w' b0 w.heap.size g cap S (fullD ps) ∧ Below w.heap.size w w' := by
 have CC := aa (polys_Clone b0 b off c ps w hb0 h hn)
 clear h
 have HN := aa hn
 go_enter Tryz.func105, Tryz.ntmps105
 go_wp2_with fail
 refine CC.out.mono ?_
 rintro e w2 ⟨g, cap, S, rfl, hr, hb⟩
 have hfl : S.length = ps.length := hr.len
 have hp := filt_pair (f := fun x : SV => !decide (x.2.1 = 0)) (f' := fun p : List TermD => !decide (p.length = 0)) hfl fun j x p hx hq => by
  obtain ⟨a, c', h1, _⟩ := hr.each j p hq
  rw [h1] at hx
  injection hx with hx
  subst hx; rfl
 have hd := Tryz.slices_DeleteFunc encS encS_one (fun x : SV => decide (x.2.1 = 0)) 186 #[] (enters_of Tryz.func186 (by kernel_rfl) rfl) (none, 0, 0) Tryz.zvPoly g 0 cap S.toArray w2 (fun W x _ => full_1 x W) (fun _ _ _ x _ => full_1 x _) hr.row.holds (by simp; omega) (by simpa using hr.row.le)
 rw [List.size_toArray, hfl] at hd
 have CD : Hd (Calls Tryz.prog 184 #[.slice (some ⟨g, 0, none⟩) ps.length cap, .func (.func 186) #[] #[]] w2 fun e w' => ∃ S', e = .returned (.slice (some ⟨g, 0, none⟩) (fullD ps).length cap) ∧ RowP w' b0 w.heap.size g cap S' (fullD ps) ∧ w2.grownBy w' (some g)) := ⟨by
  refine hd.mono ?_
  rintro e w' ⟨rfl, q, rfl⟩
  have hle := List.length_filter_le (fun x : SV => !decide (x.2.1 = 0)) S
  refine ⟨S.filter fun x => !decide (x.2.1 = 0), by rw [show (fullD ps).length = _ from hp.1.symm], hr.put (S' := S.filter fun x => !decide (x.2.1 = 0)) (qs := fullD ps) q _ (fun j x hj => ?_) hle hp.1 hp.2, put_grown w2 g q _⟩
  have hjl := (List.getElem?_eq_some_iff.1 hj).1
  rw [List.getElem?_toArray, List.getElem?_append_left hjl]
  exact hj⟩
 have HB := aa hb
 have HR := aa hr
 clear CC hr hb hp hd hfl
 go_wp2_with fail
 refine CD.out.mono ?_
 rintro e w3 ⟨S', rfl, hr, hg⟩
 have HR3 := aa hr
 have HB3 := aa (HB.out.grown hg HB.out.size fun k e => by injection e with e; subst e; exact HR.out.row.base)
 clear hr hg CD
 go_wp2_with fail
 go_ret
 exact ⟨g, cap, S', rfl, HR3.out, HB3.out⟩
end Go.Proofs.YtgjkgkgieeoalaaGreat
namespace Go.Proofs.YtgjkgkgieeoalaaGreat
open Go.RowKit
def Looks (F : FuncId) (cb : Array Value) (b0 : Nat) (f : List TermD → Bool) (ps : List (List TermD)) (w : World) : Prop :=
 ∀ (W : World) (a : Option Addr) (pc : Nat) (p : List TermD), Below w.heap.size w W → p ∈ ps → RPol W b0 a p → p.length ≤ pc → Calls Tryz.prog F (#[.slice a p.length pc] ++ cb) W fun e w' => e = .returned (.bool (f p)) ∧ Below W.heap.size W w'
theorem polys_Index (F : FuncId) (cb : Array Value) (eg : ∀ args w, (callFunc F args).run Tryz.prog w = .ok (.enter F args) w) (b0 : Nat) (f : List TermD → Bool) (A : Option Addr) (c : Nat) (ps : List (List TermD)) (w : World) (h : RPols w b0 A ps) (hl : ps.length ≤ 1000) (hf : Looks F cb b0 f ps w) :
    Calls Tryz.prog 187 #[.slice A ps.length c, .func (.func F) #[] cb] w fun e w' => ∃ i : Int, e = .returned (.int .i64 i) ∧ decide (0 ≤ i) = ps.any f ∧ Below w.heap.size w w' := by
 have H := aa h
 have HF := aa hf
 clear h hf
 go_enter Tryz.func187, Tryz.ntmps187
 go_wp2_with fail
 go_loopw [8] (fun v wr => ∃ i : Nat, v = .int .i64 i ∧ i ≤ ps.length ∧ Hd ((ps.take i).any f = false) ∧ Hd (Below w.heap.size w wr)) (fun v _ => ps.length - (intOf v).toNat)
 case atStart => exact ⟨0, rfl, by omega, ⟨rfl⟩, ⟨.refl _ _⟩⟩
 case round =>
  obtain ⟨i, rfl, hi, ht, hb⟩ := hrel
  by_cases hlt : i < ps.length
  ·obtain ⟨ad, a, pc, t, rfl, hab, hti, hcell, hpc, hrt⟩ := (H.out.up hb.out).get hlt
   have i2 : (i : Int) < ps.length := by omega
   have i3 : (0 : Int) ≤ i := by omega
   have CB := aa (HF.out wr a pc t hb.out (List.mem_of_getElem? hti.out) hrt.out hpc)
   have hsn : Hd ((ps.take (i + 1)).any f = ((ps.take i).any f || f t)) := ⟨by
    rw [List.take_add_one, hti.out, List.any_append]; simp⟩
   clear hrt
   cases h8 : f t
   case true =>
    rw [h8] at CB hsn
    clear h8
    go_wp2_with (go_at_fn F; refine CB.out.mono ?_; rintro e w' ⟨rfl, hb2⟩; have HB := aa (hb.out.trans (hb2.mono hb.out.size)); clear hb2 hcell)
    go_ret
    refine ⟨_, rfl, ?_, HB.out⟩
    have h1 := hsn.out
    rw [Bool.or_true] at h1
    rw [decide_eq_true (by omega : (0 : Int) ≤ i)]
    conv => rhs; rw [← List.take_append_drop (i + 1) ps]
    rw [List.any_append, h1]; rfl
   case false =>
    rw [h8] at CB hsn
    clear h8
    go_wp2_with (go_at_fn F; refine CB.out.mono ?_; rintro e w' ⟨rfl, hb2⟩; have HB := aa (hb.out.trans (hb2.mono hb.out.size)); clear hb2 hcell)
    go_roundw
    case measure => first | (simp [intOf]; done) | (simp [intOf]; omega)
    case rel => exact ⟨i + 1, by go_num, by omega, ⟨by rw [hsn.out, ht.out]; rfl⟩, HB⟩
  ·have hie : i = ps.length := by omega
   subst hie
   go_wp2_with fail
   go_ret
   refine ⟨_, rfl, ?_, hb.out⟩
   have := ht.out
   rw [List.take_length] at this
   rw [this]; rfl
theorem polys_Contains (F : FuncId) (cb : Array Value) (eg : ∀ args w, (callFunc F args).run Tryz.prog w = .ok (.enter F args) w) (b0 : Nat) (f : List TermD → Bool) (A : Option Addr) (c : Nat) (ps : List (List TermD)) (w : World) (h : RPols w b0 A ps) (hl : ps.length ≤ 1000) (hf : Looks F cb b0 f ps w) :
    Calls Tryz.prog 110 #[.slice A ps.length c, .func (.func F) #[] cb] w fun e w' => e = .returned (.bool (ps.any f)) ∧ Below w.heap.size w w' := by
 have hi := aa (polys_Index F cb eg b0 f A c ps w h hl hf)
 clear h hf
 go_enter Tryz.func110, Tryz.ntmps110
 go_wp2_with fail
 refine hi.out.mono ?_
 rintro e w' ⟨i, rfl, hib, hb⟩
 have HIB := aa hib
 have HB := aa hb
 clear hib hb
 go_wp2_with fail
 go_ret
 exact ⟨retBool HIB.out, HB.out⟩
theorem basis_1 {b0 g : Nat} {o : Int} {A : Option Addr} {c : Nat} {ts : List TermD} {w : World} (hk : Bk w g 3 #[.int .i64 o]) (h : RPol w b0 A ts) (hc : ts.length ≤ c) (hs : shortP ts) :
    Calls Tryz.prog 183 #[.slice A ts.length c, .pointer (some ⟨g, 0, none⟩)] w fun e w' => e = .returned (.bool (!polMay o ts)) ∧ Below w.heap.size w w' := by
 have C1 := aa (poly_May b0 o A c ts w h hc hs)
 have q0 := hk.one
 clear hk h hs hc
 go_enter Tryz.func183, Tryz.ntmps183
 go_wp2_with fail
 refine C1.out.mono ?_
 rintro e w4 ⟨rfl, hb⟩
 have HB := aa hb
 clear hb q0
 go_wp2_with fail
 go_ret
 exact ⟨rfl, HB.out⟩
theorem basisD_any (o : Int) (l : List (List TermD)) : (l.any fun p => !polMay o p) = !l.all (polMay o) := by
 induction l with
 | nil => rfl
 | cons p l ih => rw [List.any_cons, List.all_cons, ih, Bool.not_and]
theorem reduce_basis (b0 : Nat) (o : Int) (A : Option Addr) (c : Nat) (ps : List (List TermD)) (w : World) (h : RPols w b0 A ps) (hn : ps.length ≤ 1000) (hs : ∀ p ∈ ps, shortP p) :
    Calls Tryz.prog 104 #[.int .i64 o, .slice A ps.length c] w fun e w' => e = .returned (.bool (basisD o ps)) ∧ Below w.heap.size w w' := by
 obtain ⟨E, hE⟩ : ∃ E, basisD o ps = E := ⟨_, rfl⟩
 rw [hE]
 have HE := aa hE
 have H := aa h
 have HS := aa hs
 clear hE h hs
 go_enter Tryz.func104, Tryz.ntmps104
 go_upto_region 2 with (fail)
 refine wp_gen (fun W => Below w.heap.size w W ∧ Bk W w.heap.size 3 #[.int .i64 o]) ⟨(ag _ _).alloc (ae _) _, Bk.new_ _ _ _⟩ ?_
 intro W1 H1
 have K1 := aa H1.out.2
 have HB1 := aa H1.out.1
 have q0 := K1.out.one
 have CM := aa (poly_May 0 o none 0 [] W1 (RPol.nil _ _ _) (ae _) ⟨by simp, fun s h => by cases h⟩)
 rw [List.length_nil] at CM
 clear H1
 cases hm : polMay o []
 case false =>
  rw [hm] at CM
  have HF : Hd (E = false) := ⟨by rw [← HE.out]; unfold basisD; rw [hm]; rfl⟩
  clear hm
  go_wp2_with fail
  refine CM.out.mono ?_
  rintro e w2 ⟨rfl, hb⟩
  have HB2 := aa (goes HB1.out hb)
  clear hb
  go_wp2_with fail
  go_ret
  exact ⟨retBool HF.out.symm, HB2.out⟩
 rw [hm] at CM
 by_cases hl : ps.length ≤ 24
 case neg =>
  have hl' : ¬ (ps.length : Int) ≤ 24 := by omega
  have HF : Hd (E = false) := ⟨by rw [← HE.out]; unfold basisD; rw [hm, decide_eq_false hl]; rfl⟩
  clear hm hl
  go_wp2_with fail
  refine CM.out.mono ?_
  rintro e w2 ⟨rfl, hb⟩
  have HB2 := aa (goes HB1.out hb)
  clear hb
  go_wp2_with fail
  go_ret
  exact ⟨retBool HF.out.symm, HB2.out⟩
 have hl' : (ps.length : Int) ≤ 24 := by omega
 have HF : Hd (E = !(ps.any fun p => !polMay o p)) := ⟨by rw [← HE.out, basisD_any]; unfold basisD; rw [hm, decide_eq_true hl]; simp⟩
 have CC := aa (fun W (hB : Below W1.heap.size W1 W) => polys_Contains 183 #[.pointer (some ⟨w.heap.size, 0, none⟩)] (enters_of Tryz.func183 (by kernel_rfl) rfl) b0 (fun p => !polMay o p) A c ps W (H.out.up (goes HB1.out hB)) hn
  (fun W' a pc p hB' hp hr hpc => basis_1 ((K1.out.up hB).up hB') hr hpc (HS.out p hp)))
 generalize (ps.any fun p => !polMay o p) = B at CC HF
 clear hm hl
 go_wp2_with fail
 refine CM.out.mono ?_
 rintro e w2 ⟨rfl, hb⟩
 have HB2 := aa (goes HB1.out hb)
 have CC2 := aa (CC.out w2 hb)
 clear hb CC CM
 go_wp2_with fail
 refine CC2.out.mono ?_
 rintro e w3 ⟨rfl, hb⟩
 have HB3 := aa (goes HB2.out hb)
 clear hb CC2
 go_wp2_with fail
 go_ret
 exact ⟨retBool HF.out.symm, HB3.out⟩
theorem reduce_divides (a b : MonD) (w : World) :
    Calls Tryz.prog 108 #[.agg #[.int .i64 a.x0, .int .i64 a.x1, .int .i64 a.x2, .int .i64 a.x3], .agg #[.int .i64 b.x0, .int .i64 b.x1, .int .i64 b.x2, .int .i64 b.x3]] w fun e w' => e = .returned (.bool (monDiv b a).1) ∧ Below w.heap.size w w' := by
 have CD := aa (mono_Div b a)
 obtain ⟨⟨is, q⟩, hD⟩ : ∃ X, monDiv b a = X := ⟨_, rfl⟩
 rw [hD] at CD ⊢
 dsimp only at CD ⊢
 clear hD
 go_enter Tryz.func108, Tryz.ntmps108
 go_upto_region 1 with (fail)
 refine wp_gen (fun W => Below w.heap.size w W ∧ Bk W w.heap.size 66 #[.int .i64 a.x0, .int .i64 a.x1, .int .i64 a.x2, .int .i64 a.x3] ∧ Bk W (w.heap.size + 1) 66 #[.int .i64 b.x0, .int .i64 b.x1, .int .i64 b.x2, .int .i64 b.x3]) ⟨((ag _ _).alloc (ae _) _).alloc (by simp) _, (Bk.new_ _ _ _).al _, by have := Bk.new_ (w.alloc (.cells #[.int .i64 a.x0, .int .i64 a.x1, .int .i64 a.x2, .int .i64 a.x3] 66)) 66 #[.int .i64 b.x0, .int .i64 b.x1, .int .i64 b.x2, .int .i64 b.x3]; simpa using this⟩ ?_
 intro W1 H1
 have HB1 := aa H1.out.1
 obtain ⟨p0, p1, p2, p3⟩ := H1.out.2.1.four
 obtain ⟨q0, q1, q2, q3⟩ := H1.out.2.2.four
 generalize w.heap.size + 1 = g3 at q0 q1 q2 q3 ⊢
 clear H1
 go_wp2_with fail
 refine (CD.out _).mono ?_
 rintro e w2 ⟨rfl, hb⟩
 have HB2 := aa (goes HB1.out hb.lo)
 clear hb p0 p1 p2 p3 q0 q1 q2 q3
 go_wp2_with fail
 go_ret
 exact ⟨rfl, HB2.out.alloc HB2.out.size _⟩
theorem RPol.head {w : World} {b0 : Nat} {A : Option Addr} {p : List TermD} (h : RPol w b0 A p) (hp : p ≠ []) : ∃ ad : Addr, A = some ad ∧ ad.block < w.heap.size ∧ w.cell? ⟨ad.block, ad.off + 3, none⟩ = some (.int .i64 (hdM p).x0) ∧ w.cell? ⟨ad.block, ad.off + 3 + 1, none⟩ = some (.int .i64 (hdM p).x1) ∧
    w.cell? ⟨ad.block, ad.off + 3 + 2, none⟩ = some (.int .i64 (hdM p).x2) ∧ w.cell? ⟨ad.block, ad.off + 3 + 3, none⟩ = some (.int .i64 (hdM p).x3) := by
 cases p with
 | nil => exact absurd rfl hp
 | cons t p =>
   obtain ⟨ad, X1, x1, X2, x2, t', rfl, hab, hti, -, -, -, -, p3, p4, p5, p6⟩ := h.get (j := 0) (by simp)
   have e : t' = t := by have := hti.out; simpa using this.symm
   subst e
   rw [Nat.zero_mul, add_none] at p3 p4 p5 p6
   exact ⟨ad, rfl, hab, p3, p4, p5, p6⟩
theorem Reduced_1 {b0 g : Nat} {m : MonD} {A : Option Addr} {c : Nat} {p : List TermD} {w : World} (hk : Bk w g 66 #[.int .i64 m.x0, .int .i64 m.x1, .int .i64 m.x2, .int .i64 m.x3]) (h : RPol w b0 A p) (hp : p ≠ []) (hc : p.length ≤ c) :
    Calls Tryz.prog 107 #[.slice A p.length c, .pointer (some ⟨g, 0, none⟩)] w fun e w' => e = .returned (.bool (monDiv m (hdM p)).1) ∧ Below w.heap.size w w' := by
 obtain ⟨ad, rfl, -, p0, p1, p2, p3⟩ := h.head hp
 obtain ⟨q0, q1, q2, q3⟩ := hk.four
 have p0 := Wd.cell p0
 have p1 := Wd.cell p1
 have p2 := Wd.cell p2
 have p3 := Wd.cell p3
 have q0 := Wd.cell q0
 have q1 := Wd.cell q1
 have q2 := Wd.cell q2
 have q3 := Wd.cell q3
 have CD := aa (fun W => reduce_divides (hdM p) m W)
 obtain ⟨x, hx⟩ : ∃ x, hdM p = x := ⟨_, rfl⟩
 rw [hx] at CD p0 p1 p2 p3 ⊢
 generalize (monDiv m x).1 = B at CD ⊢
 have hn : (0 : Int) < p.length := by have := List.length_pos_iff.2 hp; omega
 clear h hk hx hp
 go_enter Tryz.func107, Tryz.ntmps107
 go_wp2_with fail
 refine wp_region_wd w (by kernel_rfl) (by kernel_rfl) (ag _ _).drew ?_
 repeat (go_big_quiet_step ((go_at_call 108; exact Wd.call (CD.out _))))
 refine wd_nil fun nq => ?_
 go_wp2_with fail
 go_ret
 exact ⟨rfl, nq.lo⟩
theorem Reduced_2 {b0 g gf : Nat} {m : MonD} {A : Option Addr} {c : Nat} {p : List TermD} {w : World} (hk : Bk w g 66 #[.int .i64 m.x0, .int .i64 m.x1, .int .i64 m.x2, .int .i64 m.x3]) (hf : Bk w gf 159 #[.func (.func 107) #[] #[.pointer (some ⟨g, 0, none⟩)]]) (h : RPol w b0 A p) (hp : p ≠ []) (hc : p.length ≤ c) :
    Calls Tryz.prog 109 #[.slice A p.length c, .pointer (some ⟨gf, 0, none⟩), .pointer (some ⟨g, 0, none⟩)] w fun e w' => e = .returned (.bool ((monDiv m (hdM p)).1 && !decide (hdM p = m))) ∧ Below w.heap.size w w' := by
 have CR := aa (fun n : Wd w => Reduced_1 (w := n.w) (hk.up n.lo) (h.up n.lo) hp hc)
 obtain ⟨ad, rfl, -, p0, p1, p2, p3⟩ := h.head hp
 obtain ⟨q0, q1, q2, q3⟩ := hk.four
 have f0 := hf.one
 have p0 := Wd.cell p0
 have p1 := Wd.cell p1
 have p2 := Wd.cell p2
 have p3 := Wd.cell p3
 have q0 := Wd.cell q0
 have q1 := Wd.cell q1
 have q2 := Wd.cell q2
 have q3 := Wd.cell q3
 have f0 := Wd.cell f0
 obtain ⟨x, hx⟩ : ∃ x, hdM p = x := ⟨_, rfl⟩
 rw [hx] at CR p0 p1 p2 p3 ⊢
 have eqm := fun W => eq_mono x m W
 simp only [MonD.v] at eqm
 generalize (monDiv m x).1 = B at CR ⊢
 generalize decide (x = m) = D at eqm ⊢
 have hn : (0 : Int) < p.length := by have := List.length_pos_iff.2 hp; omega
 clear h hk hf hx hp
 cases B with
 | false =>
   go_enter Tryz.func109, Tryz.ntmps109
   go_wp2_with fail
   refine wp_region_wd w (by kernel_rfl) (by kernel_rfl) (ag _ _).drew ?_
   repeat (go_big_quiet_step ((go_at_call 107; exact Wd.call (CR.out _))))
   refine wd_nil fun nq => ?_
   go_wp2_with fail
   go_ret
   exact ⟨rfl, nq.lo⟩
 | true =>
   go_enter Tryz.func109, Tryz.ntmps109
   go_wp2_with fail
   refine wp_region_wd w (by kernel_rfl) (by kernel_rfl) (ag _ _).drew ?_
   repeat (go_big_quiet_step ((go_at_call 107; exact Wd.call (CR.out _))))
   refine wd_nil fun nq => ?_
   go_wp2_with fail
   go_ret
   exact ⟨retBool (by simp), nq.lo⟩
end Go.Proofs.YtgjkgkgieeoalaaGreat
namespace Go.Proofs.YtgjkgkgieeoalaaGreat
open Go.RowKit
open Go.Sort hiding Below
def Wl (w0 : World) : Type := {W : World // Blw w0.heap.size w0 W}
def Wl.w {w0 : World} (n : Wl w0) : World := n.1
theorem Wl.lo {w0 : World} (n : Wl w0) : Blw w0.heap.size w0 n.w := n.2
instance (w0 : World) : Nonempty (Wl w0) := ⟨⟨w0, .refl _ _⟩⟩
theorem Wl.cell {w0 : World} {p : Addr} {v : Value} (h : w0.cell? p = some v) : ∀ n : Wl w0, n.w.cell? p = some v := fun n => cellUp h n.lo
section
variable {P : Program} {w0 : World}
theorem Wl.call {f : FuncId} {args : Array Value} {v : Value} {n : Wl w0} (h : Calls P f args n.w fun e w' => e = .returned v ∧ Blw n.w.heap.size n.w w') : Calls P f args n.w fun e w' => e = .returned v ∧ ∃ m : Wl w0, w' = m.w :=
 h.mono fun _ w' ⟨he, hb⟩ => ⟨he, ⟨w', n.lo.trans (hb.mono n.lo.size)⟩, rfl⟩
theorem wp_region_wl {id : Nat} {Q : Exit → Act → World → Prop} {a : Act} {w : World} {l : List Oper} (w0 : World) (hm : P.follows .mixedOrders = true) (hB : Region.lexB .any l.toArray = true) (hC : Blw w0.heap.size w0 w.drew)
    (h : wpQuiet P l.toArray (fun W => ∃ n : Wl w0, W = n.w) (fun a' => ∀ w', (∃ n : Wl w0, w' = n.w) → Q .normal a' w') l a) : (Code.region id l.toArray true).wp P Q a w :=
 wp_region_quiet (C := fun W => ∃ n : Wl w0, W = n.w) hm hB ⟨⟨w.drew, hC⟩, rfl⟩ (by simpa using h)
theorem wl_nil {ops : Array Oper} {a : Act} {C : World → Prop} {Q : Exit → Act → World → Prop} (h : ∀ n : Wl w0, Q .normal a n.w) : wpQuiet P ops C (fun a' => ∀ w', (∃ n : Wl w0, w' = n.w) → Q .normal a' w') [] a :=
 wpQuiet_nil fun _ ⟨n, e⟩ => e ▸ h n
end
structure HdAt (w : World) (g : Nat) (x : SV) (m : MonD) : Prop where
 at_ : ∃ ad : Addr, x.1 = some ad ∧ ad.block < w.heap.size ∧ ad.block ≠ g ∧ w.cell? ⟨ad.block, ad.off + 3, none⟩ = some (.int .i64 m.x0) ∧ w.cell? ⟨ad.block, ad.off + 3 + 1, none⟩ = some (.int .i64 m.x1) ∧
  w.cell? ⟨ad.block, ad.off + 3 + 2, none⟩ = some (.int .i64 m.x2) ∧ w.cell? ⟨ad.block, ad.off + 3 + 3, none⟩ = some (.int .i64 m.x3)
 pos : 0 < x.2.1
 may : monMay m = true
theorem HdAt.grown {w w' : World} {g : Nat} {x : SV} {m : MonD} (h : HdAt w g x m) (hg : w.grownBy w' (some g)) : HdAt w' g x m := by
 obtain ⟨⟨ad, e, hb, hne, p0, p1, p2, p3⟩, hp, hm⟩ := h
 have key : ∀ (k : Nat), w'.cell? ⟨ad.block, k, none⟩ = w.cell? ⟨ad.block, k, none⟩ := fun k => World.cell?_of_block (hg.block _ hb (fun e => hne (by injection e)))
 exact ⟨⟨ad, e, Nat.lt_of_lt_of_le hb hg.size, hne, by rw [key]; exact p0, by rw [key]; exact p1, by rw [key]; exact p2, by rw [key]; exact p3⟩, hp, hm⟩
theorem Reduced_3 {gb g : Nat} {o : Int} {x y : SV} {m m' : MonD} {w : World} (hk : w.cell? ⟨gb, 0, none⟩ = some (.int .i64 o)) (hx : HdAt w g x m) (hy : HdAt w g y m') :
    Calls Tryz.prog 114 #[encS x, encS y, .pointer (some ⟨gb, 0, none⟩)] w fun e w' => e = .returned (.int .i64 (monCmp o m' m)) ∧ Blw w.heap.size w w' := by
 obtain ⟨⟨ad, e, -, -, p0, p1, p2, p3⟩, hp, -⟩ := hx
 obtain ⟨⟨bd, e', -, -, q0, q1, q2, q3⟩, hq, -⟩ := hy
 obtain ⟨xa, xn, xc⟩ := x
 obtain ⟨ya, yn, yc⟩ := y
 dsimp only at e e' hp hq
 subst e e'
 unfold encS
 dsimp only
 have k0 := Wl.cell hk
 have p0 := Wl.cell p0
 have p1 := Wl.cell p1
 have p2 := Wl.cell p2
 have p3 := Wl.cell p3
 have q0 := Wl.cell q0
 have q1 := Wl.cell q1
 have q2 := Wl.cell q2
 have q3 := Wl.cell q3
 have CC := aa (fun W => mono_Cmp o m' m W)
 generalize monCmp o m' m = B at CC ⊢
 have hn : (0 : Int) < xn := by omega
 have hn' : (0 : Int) < yn := by omega
 clear hk
 go_enter Tryz.func114, Tryz.ntmps114
 go_wp2_with fail
 refine wp_region_wl w (by kernel_rfl) (by kernel_rfl) (Blw.refl _ _).drew ?_
 repeat (go_big_quiet_step ((go_at_call 115; exact Wl.call (CC.out _))))
 refine wl_nil fun nq => ?_
 go_wp2_with fail
 go_ret
 exact ⟨rfl, nq.lo⟩
abbrev HS (w : World) (g : Nat) : Type := {y : SV × List TermD // HdAt w g y.1 (hdM y.2)}
def encH {w : World} {g : Nat} (y : HS w g) : Value := encS y.1.1
def cfH {w : World} {g : Nat} (o : Int) (x y : HS w g) : Int := monCmp o (hdM y.1.2) (hdM x.1.2)
theorem swoH {w : World} {g : Nat} {o : Int} (ho : oOk o) : SWO (ltOf (cfH (w := w) (g := g) o)) where
 irrefl x := decide_eq_false (by rw [show cfH o x x = 0 from (monCmp_zero ho x.2.may x.2.may).2 rfl]; omega)
 trans x y z h1 h2 := decide_eq_true (monCmp_lt ho z.2.may y.2.may x.2.may (of_decide_eq_true h2) (of_decide_eq_true h1))
 ntrans x y z h1 h2 := by
  have g1 : ¬ monCmp o (hdM y.1.2) (hdM x.1.2) < 0 := of_decide_eq_false h1
  have g2 : ¬ monCmp o (hdM z.1.2) (hdM y.1.2) < 0 := of_decide_eq_false h2
  refine decide_eq_false ?_
  show ¬ monCmp o (hdM z.1.2) (hdM x.1.2) < 0
  have e1 := monCmp_anti ho x.2.may y.2.may
  have e2 := monCmp_anti ho y.2.may z.2.may
  have e3 := monCmp_anti ho x.2.may z.2.may
  have := monCmp_le ho x.2.may y.2.may z.2.may (by omega) (by omega)
  omega
theorem sortW_grown {α : Type} [Inhabited α] {enc : α → Value} {w : World} {blk off n : Nat} {d : Array α} {os : Array Obj} : w.grownBy (sortWorld enc w blk off n d os) (some blk) := by
 refine ⟨rfl, rfl, rfl, ?_, fun k hk hne => ?_⟩
 ·simp [sortWorld, grow, putRow, mapBlock, Go.Sort.ahead]
 ·simp only [sortWorld, grow, putRow, mapBlock, Go.Sort.ahead]
  rw [Array.getElem?_append_left (by simpa using hk), Array.getElem?_modify, if_neg (fun e => hne (by rw [e]))]
theorem putRow_map {w W : World} {g : Nat} [Inhabited (HS w g)] (d : Array (HS w g)) : putRow (encH (w := w) (g := g)) W g 0 d = putRow encS W g 0 (d.map fun y => y.1.1) := by
 unfold putRow
 congr 1
 funext cs
 unfold putCells
 refine Array.ext_getElem? fun k => ?_
 rw [Array.getElem?_mapIdx, Array.getElem?_mapIdx]
 cases cs[k]? with
 | none => rfl
 | some u =>
   simp only [Option.map_some, Array.size_map]
   split
   ·rename_i h
    have hk : k - 0 < d.size := by omega
    rw [getElem!_pos d (k - 0) hk, getElem!_pos (d.map fun y => y.1.1) (k - 0) (by simpa using hk), Array.getElem_map]
    rfl
   ·rfl
theorem grow_below (W : World) (os : Array Obj) : Below W.heap.size W (grow W os) :=
 ⟨rfl, rfl, rfl, by show W.heap.size ≤ (W.heap ++ os).size; rw [Array.size_append]; omega, fun k hk => by show (W.heap ++ os)[k]? = _; rw [Array.getElem?_append_left hk]⟩
theorem ins_none (F : FuncId) (cb : Array Value) (A : Option Addr) (n c : Nat) (w : World) :
    Calls Tryz.prog 244 #[.slice A n c, .int .i64 0, .int .i64 0, .func (.func F) #[] cb] w fun e w' => e = .returned (.tuple #[]) ∧ w' = w := by
 go_enter Tryz.func244, Tryz.ntmps244
 go_wp2_with fail
 go_loopw [8] (fun v wr => v = .int .i64 1 ∧ wr = w) (fun _ _ => 0)
 case atStart => exact ⟨rfl, rfl⟩
 case round =>
  obtain ⟨rfl, rfl⟩ := hrel
  go_wp2_with fail
  go_end0
  exact ⟨rfl, rfl⟩
theorem sort_few (F : FuncId) (cb : Array Value) (A : Option Addr) (n c : Nat) (hn : n ≤ 12) (w : World) {Q : World → Prop}
    (hi : Calls Tryz.prog 244 #[.slice A n c, .int .i64 0, .int .i64 n, .func (.func F) #[] cb] w fun e w' => e = .returned (.tuple #[]) ∧ Q w') :
    Calls Tryz.prog 113 #[.slice A n c, .func (.func F) #[] cb] w fun e w' => e = .returned (.tuple #[]) ∧ Q w' := by
 have HI := aa hi
 clear hi
 have HP : ∀ L : Int, Hd (Calls Tryz.prog 190 #[.slice A n c, .int .i64 0, .int .i64 n, .int .i64 L, .func (.func F) #[] cb] w fun e w' => e = .returned (.tuple #[]) ∧ Q w') := fun L => ⟨by
  have n1 : (n : Int) ≤ 12 := by omega
  go_enter Tryz.func190, Tryz.ntmps190
  go_wp2_with fail
  go_loopw [1, 2] (fun v1 v2 wr => v1 = .int .i64 0 ∧ v2 = .int .i64 n ∧ wr = w) (fun _ _ _ => 0)
  case atStart => exact ⟨rfl, rfl, rfl⟩
  case round =>
   obtain ⟨rfl, rfl, rfl⟩ := hrel
   go_wp2_with fail
   refine HI.out.mono ?_
   rintro e w2 ⟨rfl, hq⟩
   have HQ := aa hq
   clear hq
   go_wp2_with fail
   refine bodyPost_ret (results_none rfl _ _ _) rfl ?_
   exact ⟨rfl, HQ.out⟩⟩
 have hl := aa (Tryz.bits_Len (n : Int) w (by omega) (by omega))
 have wr : IntKind.u64.wrap (n : Int) = n := by simp [IntKind.wrap, IntKind.bits, IntKind.signed]; omega
 go_enter Tryz.func113, Tryz.ntmps113
 go_wp2_with fail
 refine hl.out.mono ?_
 rintro e w' ⟨rfl, rfl⟩
 go_wp2_with fail
 refine (HP _).out.mono ?_
 rintro e w2 ⟨rfl, hq⟩
 have HQ := aa hq
 clear hq
 go_wp2_with fail
 go_end0
 exact ⟨rfl, HQ.out⟩
theorem RPol.hdAt {w : World} {b0 g : Nat} {a : Option Addr} {c : Nat} {p : List TermD} {o : Int} (h : RPol w b0 a p) (hp : Pz o p) (hne : p ≠ [] → ∀ ad, a = some ad → ad.block ≠ g) : HdAt w g (a, p.length, c) (hdM p) := by
 obtain ⟨ad, rfl, hb, p0, p1, p2, p3⟩ := h.head hp.ne
 exact ⟨⟨ad, rfl, hb, hne hp.ne ad rfl, p0, p1, p2, p3⟩, List.length_pos_iff.2 hp.ne, hp.may⟩
theorem sort_polys (o : Int) (ho : oOk o) (b0 base g gb cap : Nat) (S : List SV) (ps : List (List TermD)) (w : World) (h : RowP w b0 base g cap S ps) (hp : ∀ p ∈ ps, Pz o p) (hl : ps.length ≤ 12) (hgb : w.cell? ⟨gb, 0, none⟩ = some (.int .i64 o)) (hne : gb ≠ g) :
    Calls Tryz.prog 113 #[.slice (some ⟨g, 0, none⟩) ps.length cap, .func (.func 114) #[] #[.pointer (some ⟨gb, 0, none⟩)]] w fun e w' => e = .returned (.tuple #[]) ∧
     ∃ S' ps', ps'.Perm ps ∧ Srt o ps' ∧ RowP w' b0 base g cap S' ps' ∧ ∃ w1, w.grownBy w1 (some g) ∧ Below w1.heap.size w1 w' := by
 by_cases h0 : ps.length = 0
 ·obtain rfl : ps = [] := List.eq_nil_of_length_eq_zero h0
  refine sort_few _ _ _ 0 cap (by omega) w (Q := fun w' => ∃ S' ps', ps'.Perm ([] : List (List TermD)) ∧ Srt o ps' ∧ RowP w' b0 base g cap S' ps' ∧ ∃ w1, w.grownBy w1 (some g) ∧ Below w1.heap.size w1 w') ((ins_none _ _ _ 0 cap w).mono ?_)
  rintro e w' ⟨rfl, rfl⟩
  exact ⟨rfl, S, [], .refl _, .nil, h, w', World.grownBy.refl w' _, .refl _ _⟩
 have hS := h.len
 have hat : ∀ j (hj : j < ps.length), HdAt w g (S[j]'(by omega)) (hdM ps[j]) := fun j hj => by
  obtain ⟨a, c, h1, h2, h3, h4⟩ := h.each j _ (ai hj)
  rw [ai (by omega)] at h1
  injection h1 with h1
  rw [h1]
  exact h3.hdAt (hp _ (List.getElem_mem hj)) h4
 obtain ⟨D, hD1, hD2⟩ : ∃ D : List (HS w g), D.length = ps.length ∧ ∀ j (hj : j < D.length) (hj' : j < ps.length), D[j].1 = (S[j]'(by omega), ps[j]) :=
  ⟨List.ofFn fun i : Fin ps.length => ⟨(S[i.1]'(by omega), ps[i.1]), hat i.1 i.2⟩, by simp, fun j hj hj' => by simp⟩
 haveI : Inhabited (HS w g) := ⟨D[0]'(by omega)⟩
 have hR : Row1 (encH (w := w) (g := g)) w g 0 D.toArray := ⟨fun _ => rfl, fun j hj => by
  have hj' : j < D.length := by simpa using hj
  rw [Nat.zero_add]
  refine ⟨?_, h.row.froz j⟩
  rw [h.row.cell (ai (show j < S.length by omega)), getElem!_pos _ j hj]
  have := hD2 j hj' (by omega)
  show _ = some (encS (D.toArray[j].1.1))
  rw [List.getElem_toArray, this], h.row.lt⟩
 have hcmp : CmpLays1 Tryz.prog 114 #[.pointer (some ⟨gb, 0, none⟩)] (encH (w := w) (g := g)) (cfH o) g 0 D.toArray.size w := fun m os dk _ x y => by
  have hg := sortW_grown (enc := encH (w := w) (g := g)) (w := w) (blk := g) (off := 0) (n := m) (d := dk) (os := os)
  have hc : (sortWorld (encH (w := w) (g := g)) w g 0 m dk os).cell? ⟨gb, 0, none⟩ = some (.int .i64 o) := by
   rw [← hgb]
   exact World.cell?_of_block (hg.block gb (World.block_lt_of_cell? w _ hgb) (fun e => hne (by injection e)))
  exact (Reduced_3 hc (x.2.grown hg) (y.2.grown hg)).mono fun e w' ⟨he, hb⟩ => ⟨he, hb.grows⟩
 have hi := Tryz.insertionSortCmpFunc_s (encH (w := w) (g := g)) (cfH o) 114 #[.pointer (some ⟨gb, 0, none⟩)] g 0 cap 0 ps.length D.toArray D.toArray w w (enters_of Tryz.func114 (by kernel_rfl) rfl) hcmp hR rfl (SW.start hR.hH) (Nat.zero_le _) (by simp; omega) (by simp; omega)
 rw [List.size_toArray, hD1] at hi
 refine sort_few _ _ _ _ cap hl w (Q := fun w' => ∃ S' ps', ps'.Perm ps ∧ Srt o ps' ∧ RowP w' b0 base g cap S' ps' ∧ ∃ w1, w.grownBy w1 (some g) ∧ Below w1.heap.size w1 w') (hi.mono ?_)
 rintro e w' ⟨rfl, m, os, rfl⟩
 refine ⟨rfl, ?_⟩
 have hso := insertionSort_holds (lt := ltOf (cfH (w := w) (g := g) o)) (swoH ho) D.toArray 0 ps.length (Nat.zero_le _) (by simp; omega)
 generalize insertionSort (ltOf (cfH (w := w) (g := g) o)) D.toArray 0 ps.length = E at hso ⊢
 obtain ⟨⟨e1, _, e3⟩, hsrt⟩ := hso
 have e1 : E.size = D.length := by simpa using e1
 have hperm : E.toList.Perm D := by
  have a1 : E.extract 0 ps.length = E := by rw [← hD1, ← e1]; simp
  have a2 : D.toArray.extract 0 ps.length = D.toArray := by rw [← hD1]; simp
  rw [a1, a2] at e3
  simpa using e3
 have hps : D.map (fun y => y.1.2) = ps := by
  refine List.ext_getElem (by rw [List.length_map, hD1]) fun j h1 h2 => ?_
  rw [List.getElem_map, hD2 j (by omega) h2]
 have hEl : E.toList.length = ps.length := by rw [hperm.length_eq, hD1]
 refine ⟨E.toList.map fun y => y.1.1, E.toList.map fun y => y.1.2, ?_, ?_, ?_, putRow encS (Go.Sort.ahead w m) g 0 (E.map fun y => y.1.1), put_grown _ _ _ _, by rw [sortWorld, putRow_map]; exact grow_below _ _⟩
 ·have := hperm.map fun y => y.1.2
  rwa [hps] at this
 ·unfold Srt
  rw [List.pairwise_map, List.pairwise_iff_getElem]
  intro i j hi' hj' hij
  have hj2 : j < E.size := by simpa using hj'
  have hi2 : i < E.size := by simpa using hi'
  have h4 := hsrt i j (Nat.zero_le _) hij (by omega)
  rw [getElem!_pos E j hj2, getElem!_pos E i hi2] at h4
  have h5 : ¬ monCmp o (hdM E[i].1.2) (hdM E[j].1.2) < 0 := of_decide_eq_false h4
  simp only [Array.getElem_toList]
  omega
 ·rw [sortWorld, putRow_map]
  refine RowP.up (w := putRow encS (Go.Sort.ahead w m) g 0 (E.map fun y => y.1.1)) ?_ (grow_below _ _)
  refine h.put m _ (fun j x hj => ?_) (by rw [List.length_map]; omega) (by rw [List.length_map, List.length_map]) fun j p hj => ?_
  ·rw [← Array.getElem?_toList, Array.toList_map]; exact hj
  ·rw [List.getElem?_map] at hj
   cases hy : E.toList[j]? with
   | none => rw [hy] at hj; cases hj
   | some y =>
     rw [hy] at hj
     injection hj with hj
     obtain ⟨i, hi', ei⟩ := List.getElem_of_mem (hperm.mem_iff.1 (List.mem_of_getElem? hy))
     have := hD2 i hi' (by omega)
     rw [ei] at this
     refine ⟨i, ?_, ?_⟩
     ·rw [ai (by omega), ← hj]
      show some ps[i] = some y.1.2
      rw [this]
     ·rw [List.getElem?_map, hy, ai (show i < S.length by omega)]
      show some y.1.1 = _
      rw [this]
end Go.Proofs.YtgjkgkgieeoalaaGreat
namespace Go.Proofs.YtgjkgkgieeoalaaGreat
open Go.RowKit
structure LeadOk (o : Int) (l : List (List TermD)) (i : Nat) (p : List TermD) : Prop where
 ne : p ≠ []
 may : polMay o p = true
 same : sameR (hdT p).c (ofD 1) = true
 fall : ∀ j q, i = j + 1 → l[j]? = some q → 0 < monCmp o (hdM q) (hdM p)
 nd : ∀ k q, k ≠ i → l[k]? = some q → q ≠ [] → dvd q p = false
theorem leadAt_of {o : Int} {l : List (List TermD)} {i : Nat} {p : List TermD} (h : leadAt o l i = true) (hp : l[i]? = some p) : LeadOk o l i p := by
 unfold leadAt at h
 rw [show l.getD i [] = p by rw [List.getD_eq_getElem?_getD, hp]; rfl] at h
 simp only [Bool.and_eq_true, Bool.not_eq_true', decide_eq_false_iff_not, List.all_eq_true, List.mem_range] at h
 obtain ⟨⟨⟨⟨h1, h2⟩, h3⟩, h4⟩, h5⟩ := h
 refine ⟨fun e => h1 (by rw [e]; rfl), h2, h3, fun j q e hq => ?_, fun k q hk hq hne => ?_⟩
 ·subst e
  rw [show l.getD (j + 1 - 1) [] = q by rw [Nat.add_sub_cancel, List.getD_eq_getElem?_getD, hq]; rfl] at h4
  rw [Bool.and_eq_false_iff, decide_eq_false_iff_not, decide_eq_false_iff_not] at h4
  rcases h4 with h4 | h4
  ·omega
  ·omega
 ·have h6 := h5 k (List.getElem?_eq_some_iff.1 hq).1
  rw [show l.getD k [] = q by rw [List.getD_eq_getElem?_getD, hq]; rfl, decide_eq_false hk, decide_eq_false (fun e => hne (List.eq_nil_of_length_eq_zero e))] at h6
  simpa using h6
theorem RPol.hd7 {w : World} {b0 : Nat} {A : Option Addr} {p : List TermD} (h : RPol w b0 A p) (hp : p ≠ []) : ∃ (ad : Addr) (X1 : Option Addr) (x1 : Nat) (X2 : Option Addr) (x2 : Nat), A = some ad ∧
    Hd (RRat w b0 (.agg #[.bool (hdT p).c.neg, .slice X1 (hdT p).c.num.length x1, .slice X2 (hdT p).c.den.length x2]) (hdT p).c) ∧
    w.cell? ad = some (.bool (hdT p).c.neg) ∧ w.cell? ⟨ad.block, ad.off + 1, none⟩ = some (.slice X1 (hdT p).c.num.length x1) ∧ w.cell? ⟨ad.block, ad.off + 2, none⟩ = some (.slice X2 (hdT p).c.den.length x2) := by
 cases p with
 | nil => exact absurd rfl hp
 | cons t p =>
   obtain ⟨ad, X1, x1, X2, x2, t', rfl, hab, hti, hrt, q0, q1, q2, -, -, -, -⟩ := h.get (j := 0) (by simp)
   have e : t' = t := by have := hti.out; simpa using this.symm
   subst e
   rw [Nat.zero_mul, add_none] at q0 q1 q2
   exact ⟨ad, X1, x1, X2, x2, rfl, ⟨hrt.out.rat⟩, q0, q1, q2⟩
end Go.Proofs.YtgjkgkgieeoalaaGreat
