/- Parts of the proof, joined: each theorem says what it shows. -/
import Derived.Test.YtgjkgkgieeoalaaGreatC36
import Derived.Test.YtgjkgkgieeoalaaGreatC02
import Derived.Test.YtgjkgkgieeoalaaGreatC35
import Derived.Shelf.SlicesE.Delete
import Derived.Shelf.SlicesE.Clone
import Derived.Ground.SlgfProg
import Derived.Shelf.SlicesE.IndexFunc
import Derived.Shelf.SlicesE.DeleteFunc
import Derived.Ground.SlsfProg
import Derived.Shelf.SlSortCmp.Insertion
import Derived.Shelf.SlSortCmp.Insertion1
set_option linter.unusedVariables false
set_option linter.unusedSimpArgs false
set_option maxHeartbeats 24000000
set_option maxRecDepth 100000
namespace Go.Proofs.YtgjkgkgieeoalaaGreat
def hdT : List TermD → TermD
 | [] => ⟨zeroD, zeroM⟩
 | t :: _ => t
def hdM (p : List TermD) : MonD := (hdT p).m
def dvd (p q : List TermD) : Bool := (monDiv (hdM q) (hdM p)).1
def basisD (o : Int) (l : List (List TermD)) : Bool := polMay o [] && decide (l.length ≤ 24) && l.all (polMay o)
def fullD (l : List (List TermD)) : List (List TermD) := l.filter fun p => !decide (p.length = 0)
def monicsD (o : Int) : List (List TermD) → Int × List (List TermD)
 | [] => (0, [])
 | p :: l => if (polMonic o p).1 ≠ 0 then ((polMonic o p).1, []) else if (monicsD o l).1 ≠ 0 then ((monicsD o l).1, []) else (0, (polMonic o p).2 :: (monicsD o l).2)
def goesD (kept rest : List (List TermD)) (p : List TermD) : Bool := kept.any (fun q => dvd q p) || rest.any fun q => dvd q p && !decide (hdM q = hdM p)
def interD : List (List TermD) → List (List TermD) → List (List TermD)
 | kept, [] => kept
 | kept, p :: rest => if goesD kept rest p = true then interD kept rest else interD (kept ++ [p]) rest
def restsD (o : Int) : List (List TermD) → List (List TermD) → Int × List (List TermD)
 | done, [] => (0, done)
 | done, p :: todo => if (splitD o p (done ++ todo)).1 ≠ 0 then ((splitD o p (done ++ todo)).1, []) else restsD o (done ++ [(splitD o p (done ++ todo)).2.2]) todo
def redD (o : Int) (l : List (List TermD)) : Int × List (List TermD) :=
 if basisD o l = false then (1, []) else if (monicsD o (fullD l)).1 ≠ 0 then ((monicsD o (fullD l)).1, []) else restsD o [] (interD [] (monicsD o (fullD l)).2)
def Srt (o : Int) (l : List (List TermD)) : Prop := l.Pairwise fun p q => 0 ≤ monCmp o (hdM p) (hdM q)
def RedIs (o : Int) (l : List (List TermD)) (e : Int) (R : List (List TermD)) : Prop := e = (redD o l).1 ∧ (e ≠ 0 → R = []) ∧ (e = 0 → R.Perm (redD o l).2 ∧ Srt o R)
structure Pz (o : Int) (p : List TermD) : Prop where
 cp : CP o p
 ne : p ≠ []
theorem Pz.may {o : Int} {p : List TermD} (h : Pz o p) : monMay (hdM p) = true := by
 obtain ⟨h1, h2⟩ := h
 cases p with
 | nil => exact absurd rfl h2
 | cons t p => exact h1.canon.sta.good t (by simp)
theorem Pz.mem {o : Int} {p : List TermD} (h : Pz o p) : hdT p ∈ p := by
 cases p with
 | nil => exact absurd rfl h.ne
 | cons t p => simp [hdT]
theorem dvd_self {m : MonD} (h : monMay m = true) : (monDiv m m).1 = true := by
 rw [monDiv_of h h (q := zeroM) (by decide) (by obtain ⟨a, b, c, d⟩ := m; unfold addM zeroM; simp)]
def Rl (a b : List TermD) : Prop := dvd a b = false ∧ (dvd b a = true → hdM b = hdM a)
theorem inter_rl : ∀ (rest kept : List (List TermD)), kept.Pairwise Rl → (∀ a ∈ kept, ∀ b ∈ rest, dvd b a = true → hdM b = hdM a) → (interD kept rest).Pairwise Rl
 | [], kept, h, _ => h
 | p :: rest, kept, h, h2 => by
   unfold interD
   split
   ·exact inter_rl rest kept h fun a ha b hb => h2 a ha b (by simp [hb])
   ·rename_i hg
    have hg : goesD kept rest p = false := by simpa using hg
    unfold goesD at hg
    rw [Bool.or_eq_false_iff, List.any_eq_false, List.any_eq_false] at hg
    obtain ⟨g1, g2⟩ := hg
    refine inter_rl rest _ ?_ fun a ha b hb hd => ?_
    ·rw [List.pairwise_append]
     refine ⟨h, by simp, fun a ha b hb => ?_⟩
     simp only [List.mem_singleton] at hb
     subst hb
     exact ⟨by simpa using g1 a ha, fun hd => h2 a ha _ (by simp) hd⟩
    ·rcases List.mem_append.1 ha with ha | ha
     ·exact h2 a ha b (by simp [hb]) hd
     ·simp only [List.mem_singleton] at ha
      subst ha
      have := g2 b hb
      rw [hd] at this
      simpa using this
theorem inter_sub : ∀ (rest kept : List (List TermD)), (interD kept rest).Sublist (kept ++ rest)
 | [], kept => by simp [interD]
 | p :: rest, kept => by
   unfold interD
   split
   ·exact (inter_sub rest kept).trans (by simp)
   ·have := inter_sub rest (kept ++ [p])
    simpa using this
def Nd (l : List (List TermD)) : Prop := l.Pairwise fun a b => dvd a b = false ∧ dvd b a = false
theorem inter_nd {o : Int} {l : List (List TermD)} (h : ∀ p ∈ l, Pz o p) : Nd (interD [] l) ∧ ∀ p ∈ interD [] l, p ∈ l := by
 have hs := inter_sub l []
 rw [List.nil_append] at hs
 have hm : ∀ p ∈ interD [] l, p ∈ l := fun p hp => hs.subset hp
 refine ⟨?_, hm⟩
 have h1 := inter_rl l [] .nil fun a ha => by cases ha
 refine List.Pairwise.imp_of_mem ?_ h1
 intro a b ha hb hr
 refine ⟨hr.1, ?_⟩
 cases hd : dvd b a with
 | false => rfl
 | true =>
   have e := hr.2 hd
   have h2 := hr.1
   unfold dvd at h2
   rw [e, dvd_self (h a (hm a ha)).may] at h2
   cases h2
theorem inter_id : ∀ (rest kept : List (List TermD)), Nd (kept ++ rest) → interD kept rest = kept ++ rest
 | [], kept, _ => by simp [interD]
 | p :: rest, kept, h => by
   have hg : goesD kept rest p = false := by
    unfold Nd at h
    rw [List.pairwise_append] at h
    obtain ⟨_, h2, h3⟩ := h
    unfold goesD
    rw [Bool.or_eq_false_iff, List.any_eq_false, List.any_eq_false]
    refine ⟨fun q hq => ?_, fun q hq => ?_⟩
    ·rw [(h3 q hq p (by simp)).1]; simp
    ·rw [((List.pairwise_cons.1 h2).1 q hq).2]; simp
   unfold interD
   rw [if_neg (by rw [hg]; simp), inter_id rest (kept ++ [p]) (by simpa using h)]
   simp
theorem moveD_k {o : Int} {k : Nat} {p b q : List TermD} {t u : TermD} {m : MonD} (h0 : (moveD o (t :: p) (u :: b) q k m).1 = 0) : k < 400 := by
 refine Nat.not_le.1 fun h => ?_
 unfold moveD at h0
 dsimp only at h0
 rw [if_pos h] at h0
 cases h0
theorem splitF_pre {o : Int} {l : List (List TermD)} : ∀ (n : Nat) (p : List TermD) (qs : List (List TermD)) (r : List TermD) (k : Nat), 460 - k - r.length < n → k ≤ 400 → r.length ≤ 60 → (splitF o l n p qs r k).1 = 0 → ∃ r', (splitF o l n p qs r k).2.2 = r ++ r'
 | 0, _, _, _, _, h, _, _, _ => by omega
 | n + 1, [], qs, r, k, _, _, _, _ => ⟨[], by simp [splitF]⟩
 | n + 1, t :: p, qs, r, k, hn, hk, hr, h0 => by
   unfold splitF at h0 ⊢
   cases hd : dividesD l t.m with
   | none =>
     rw [hd] at h0
     dsimp only at h0 ⊢
     by_cases hr2 : 60 ≤ r.length
     ·rw [if_pos hr2] at h0; cases h0
     rw [if_neg hr2] at h0 ⊢
     obtain ⟨r', e⟩ := splitF_pre n p qs (r ++ [t]) k (by simp; omega) hk (by simp; omega) h0
     exact ⟨t :: r', by rw [e]; simp⟩
   | some x =>
     obtain ⟨i, m⟩ := x
     rw [hd] at h0
     dsimp only at h0 ⊢
     obtain ⟨u, b, hi, hm⟩ := dividesD_lt hd
     have e1 : l.getD i [] = u :: b := by rw [List.getD_eq_getElem?_getD, hi]; rfl
     rw [e1] at h0 ⊢
     by_cases hmv : (moveD o (t :: p) (u :: b) (qs.getD i []) k m).1 = 0
     case neg => rw [if_pos (by simpa using hmv)] at h0; exact absurd h0 hmv
     rw [if_neg (by simpa using hmv)] at h0 ⊢
     have := moveD_k hmv
     exact splitF_pre n _ _ r (k + 1) (by omega) (by omega) hr h0
theorem rest_head {o : Int} {p : List TermD} {l : List (List TermD)} (hp : Pz o p) (hl : ∀ b ∈ l, Pz o b) (hd : ∀ b ∈ l, dvd b p = false) (h0 : (splitD o p l).1 = 0) :
    Pz o (splitD o p l).2.2 ∧ hdT (splitD o p l).2.2 = hdT p ∧ ∀ s ∈ (splitD o p l).2.2, ∀ b ∈ l, (monDiv s.m (hdM b)).1 = false := by
 have hc : ∀ b ∈ l, CP o b := fun b hb => (hl b hb).cp
 obtain ⟨qs, r, e, D⟩ := splitD_good hp.cp hc h0
 have hpre : ∃ r', r = hdT p :: r' := by
  have hne := hp.ne
  cases p with
  | nil => exact absurd rfl hne
  | cons t p =>
    by_cases h24 : l.length ≤ 24
    case neg =>
     unfold splitD at e
     rw [if_pos (by rw [decide_eq_false h24]; simp)] at e
     cases e
    rw [splitD_F hp.cp hc h24] at e h0
    have hn : dividesD l t.m = none := dividesD_no fun u b hb => by
     have h1 := hd (u :: b) hb
     unfold dvd at h1
     exact h1
    obtain ⟨n, hN⟩ : ∃ n, 400 * 61 + 61 = n + 1 := ⟨400 * 61 + 60, rfl⟩
    have hN2 : 1000 < n := by omega
    rw [hN] at e h0
    clear hN
    unfold splitF at e h0
    rw [hn] at e h0
    dsimp only at e h0
    rw [if_neg (by simp)] at e h0
    obtain ⟨r', e'⟩ := splitF_pre n p _ ([] ++ [t]) 0 (by simp; omega) (by omega) (by simp) h0
    rw [e] at e'
    exact ⟨r', by simpa [hdT] using e'⟩
 obtain ⟨r', er⟩ := hpre
 rw [e]
 dsimp only
 refine ⟨⟨D.cr, by rw [er]; simp⟩, by rw [er]; rfl, fun s hs b hb => ?_⟩
 have hne := (hl b hb).ne
 obtain ⟨i, hi, rfl⟩ := List.getElem_of_mem hb
 cases e2 : l[i] with
 | nil => exact absurd e2 hne
 | cons u b => exact dividesD_none (D.rd s hs) (show l[i]? = some (u :: b) by rw [List.getElem?_eq_getElem hi, e2])
theorem Nd.out {a b : List (List TermD)} {p : List TermD} (h : Nd (a ++ p :: b)) : ∀ q ∈ a ++ b, dvd q p = false ∧ dvd p q = false := by
 unfold Nd at h
 rw [List.pairwise_append] at h
 obtain ⟨_, h2, h3⟩ := h
 intro q hq
 rcases List.mem_append.1 hq with hq | hq
 ·exact h3 q hq p (by simp)
 ·exact ((List.pairwise_cons.1 h2).1 q hq).symm
theorem Nd.heads {l l' : List (List TermD)} (h : Nd l) (e : l'.map hdT = l.map hdT) : Nd l' := by
 have key : ∀ x : List (List TermD), Nd x ↔ (x.map hdT).Pairwise fun s t => (monDiv t.m s.m).1 = false ∧ (monDiv s.m t.m).1 = false := fun x => by
  rw [List.pairwise_map]; rfl
 rw [key, e, ← key]; exact h
def Rby (H : List MonD) (r : List TermD) : Prop := ∀ s ∈ r, ∀ h ∈ H, h ≠ hdM r → (monDiv s.m h).1 = false
theorem rests_ok {o : Int} : ∀ (todo done : List (List TermD)), (∀ p ∈ done ++ todo, Pz o p) → Nd (done ++ todo) → (∀ r ∈ done, Rby ((done ++ todo).map hdM) r) → (restsD o done todo).1 = 0 →
    (restsD o done todo).2.map hdT = (done ++ todo).map hdT ∧ (∀ r ∈ (restsD o done todo).2, Pz o r ∧ Rby ((done ++ todo).map hdM) r)
 | [], done, h, _, hr, _ => by
   rw [List.append_nil] at *
   exact ⟨rfl, fun r hm => ⟨h r hm, hr r hm⟩⟩
 | p :: todo, done, h, hn, hr, h0 => by
   have hp := h p (by simp)
   have hl : ∀ b ∈ done ++ todo, Pz o b := fun b hb => h b (by simp only [List.mem_append, List.mem_cons] at hb ⊢; rcases hb with hb | hb <;> simp [hb])
   unfold restsD at h0 ⊢
   by_cases hs : (splitD o p (done ++ todo)).1 = 0
   case neg => rw [if_pos (by simpa using hs)] at h0; exact absurd h0 hs
   rw [if_neg (by simpa using hs)] at h0 ⊢
   obtain ⟨a1, a2, a3⟩ := rest_head hp hl (fun b hb => (hn.out b hb).1) hs
   generalize (splitD o p (done ++ todo)).2.2 = r at a1 a2 a3 h0 ⊢
   have em : (done ++ [r] ++ todo).map hdT = (done ++ p :: todo).map hdT := by simp [a2]
   have em2 : (done ++ [r] ++ todo).map hdM = (done ++ p :: todo).map hdM := by simp [hdM, a2]
   have ih := rests_ok (o := o) todo (done ++ [r]) (fun q hq => ?_) (hn.heads em) (fun q hq => ?_) h0
   ·rw [em, em2] at ih
    exact ih
   ·simp only [List.mem_append, List.mem_singleton] at hq
    rcases hq with (hq | hq) | hq
    ·exact h q (by simp [hq])
    ·rw [hq]; exact a1
    ·exact h q (by simp [hq])
   ·rw [em2]
    simp only [List.mem_append, List.mem_singleton] at hq
    rcases hq with hq | hq
    ·exact hr q hq
    ·subst hq
     intro s hs h hh hne
     obtain ⟨x, hx, rfl⟩ := List.mem_map.1 hh
     have hx2 : x = p ∨ x ∈ done ++ todo := by
      simp only [List.mem_append, List.mem_cons] at hx ⊢
      rcases hx with hx | rfl | hx
      ·exact .inr (.inl hx)
      ·exact .inl rfl
      ·exact .inr (.inr hx)
     rcases hx2 with rfl | hx2
     ·exact absurd (by show (hdT x).m = (hdT q).m; rw [a2]) hne
     ·exact a3 s hs x hx2
theorem rests_id {o : Int} : ∀ (todo done : List (List TermD)), (∀ p ∈ done ++ todo, Pz o p) → Nd (done ++ todo) → (∀ r ∈ done ++ todo, Rby ((done ++ todo).map hdM) r) → (done ++ todo).length ≤ 24 → restsD o done todo = (0, done ++ todo)
 | [], done, _, _, _, _ => by simp [restsD]
 | p :: todo, done, h, hn, hr, h24 => by
   have hp := h p (by simp)
   have hl : ∀ b ∈ done ++ todo, Pz o b := fun b hb => h b (by simp only [List.mem_append, List.mem_cons] at hb ⊢; rcases hb with hb | hb <;> simp [hb])
   have e := splitD_rest (o := o) (p := p) (l := done ++ todo) hp.cp (fun b hb => (hl b hb).cp) (by simp at h24 ⊢; omega) fun t ht => dividesD_no fun u b hb => by
    refine hr p (by simp) t ht u.m ?_ fun e => ?_
    ·refine List.mem_map.2 ⟨u :: b, ?_, rfl⟩
     simp only [List.mem_append, List.mem_cons] at hb ⊢
     rcases hb with hb | hb <;> simp [hb]
    ·have h1 := (hn.out _ hb).1
     unfold dvd at h1
     rw [show hdM (u :: b) = u.m from rfl, e, dvd_self hp.may] at h1
     cases h1
   unfold restsD
   rw [e, if_neg (by simp)]
   have ih := rests_id (o := o) todo (done ++ [p]) (by simpa using h) (by simpa using hn) (by simpa using hr) (by simpa using h24)
   simpa using ih
end Go.Proofs.YtgjkgkgieeoalaaGreat
namespace Go.Proofs
open Go.Shelf
def Tryz.laysSlE45_f188_ren : Go.Shelf.Ren := ⟨fun | 45 => 188 | n => n, fun | 22 => 27 | 23 => 25 | 3 => 3 | 4 => 4 | 0 => 0 | n => n, fun | n => n⟩
theorem Tryz.laysSlE45_f188 : Go.Proofs.SlLaysE.n45 Tryz.prog Tryz.laysSlE45_f188_ren := {
 mixed := by kernel_rfl
 f45 := ⟨Tryz.f188.name, by decide, Tryz.func188.trans (congrArg some (by kernel_rfl))⟩
 t0 := Tryz.underlying0
 a0 := Tryz.isAgg0
 z0 := Tryz.sizeOf0
 v0 := Tryz.zeroValue0
 t3 := Tryz.underlying3
 a3 := Tryz.isAgg3
 z3 := Tryz.sizeOf3
 v3 := Tryz.zeroValue3
 t4 := Tryz.underlying4
 a4 := Tryz.isAgg4
 z4 := Tryz.sizeOf4
 v4 := Tryz.zeroValue4
 t22 := Tryz.underlying27
 a22 := Tryz.isAgg27
 z22 := Tryz.sizeOf27
 v22 := Tryz.zeroValue27
 a23 := Tryz.isAgg25
 z23 := Tryz.sizeOf25 }
open Go.RowKit Go.Lib Go.Sort in
theorem Tryz.slices_Delete {α : Type} [Inhabited α] (enc : α → Value) (h1 : OneCell enc) (zr : α) (v23 : ∀ w, (zeroValue 25).run Tryz.prog w = .ok (enc zr) w) (i0 : TypeInfo) (hi0 : Tryz.prog.info? 25 = some i0) (hz1 : i0.size = 1) (blk off cap i j : Nat) (d : Array α) (w : World) (hH : Holds enc w blk off d) (hcap : d.size ≤ cap) (hm : cap ≤ 9223372036854775807) (hij : i ≤ j) (hj : j ≤ d.size) :
    Calls Tryz.prog 188 #[.slice (some ⟨blk, off, none⟩) d.size cap, .int .i64 i, .int .i64 j] w fun e w' => e = .returned (.slice (some ⟨blk, off, none⟩) (d.size - (j - i)) cap) ∧ ∃ q, w' = putRow enc (Sort.ahead w q) blk off (d.toList.take i ++ d.toList.drop j ++ List.replicate (j - i) zr).toArray := AnyE.slices_Delete Tryz.laysSlE45_f188 enc h1 zr v23 i0 hi0 hz1 blk off cap i j d w hH hcap hm hij hj
def Tryz.laysSlE041_f185_ren : Go.Shelf.Ren := ⟨fun | 41 => 185 | n => n, fun | 22 => 27 | 23 => 25 | 4 => 4 | n => n, fun | n => n⟩
theorem Tryz.laysSlE041_f185 : Go.Proofs.SlLaysE0.n41 Tryz.prog Tryz.laysSlE041_f185_ren := {
 mixed := by kernel_rfl
 f41 := ⟨Tryz.f185.name, by decide, Tryz.func185.trans (congrArg some (by kernel_rfl))⟩
 t4 := Tryz.underlying4
 a4 := Tryz.isAgg4
 z4 := Tryz.sizeOf4
 v4 := Tryz.zeroValue4
 t22 := Tryz.underlying27
 a22 := Tryz.isAgg27
 z22 := Tryz.sizeOf27
 v22 := Tryz.zeroValue27 }
open Go.RowKit Go.Lib in
theorem Tryz.slices_Clone_f185 (i0 : TypeInfo) (z : Value) (size bytes : Nat) (hi : Tryz.prog.info? 25 = some i0) (hz0 : i0.zero = some z) (hz1 : i0.size = size) (hz2 : i0.bytes = bytes) (hzs : z.cells.size = size) (hsz : 0 < size) (z23 : ∀ w, (Go.sizeOf 25).run Tryz.prog w = .ok size w) (b off n c : Nat) (news : List Value) (w : World) (hl : news.length = n * size) (hn : n ≤ maxLen) (hbig : n * bytes ≤ 140737488355328) (hc : ∀ j u, news[j]? = some u → w.cell? ⟨b, off + j, none⟩ = some u) (h1 : ∀ u ∈ news, u.oneCell' = true) :
    Calls Tryz.prog 185 #[.slice (some ⟨b, off, none⟩) n c] w fun e w' => ∃ v', e = .returned v' ∧ w'.ownsRow w.heap.size 25 size v' n news ∧ v' ≠ .slice none 0 0 ∧ Below w.heap.size w w' := AnyE.slices_Clone Tryz.laysSlE041_f185 i0 z size bytes hi hz0 hz1 hz2 hzs hsz z23 b off n c news w hl hn hbig hc h1
def Tryz.laysSlH10_f184_ren : Go.Shelf.Ren := ⟨fun | 10 => 184 | 6 => 187 | n => n, fun | 22 => 27 | 23 => 25 | 25 => 159 | 3 => 3 | 4 => 4 | 0 => 0 | n => n, fun | n => n⟩
theorem Tryz.laysSlH10_f184 : Go.Proofs.SlLaysH.n10 Tryz.prog Tryz.laysSlH10_f184_ren := {
 mixed := by kernel_rfl
 f6 := ⟨Tryz.f187.name, by decide, Tryz.func187.trans (congrArg some (by kernel_rfl))⟩
 f10 := ⟨Tryz.f184.name, by decide, Tryz.func184.trans (congrArg some (by kernel_rfl))⟩
 t0 := Tryz.underlying0
 a0 := Tryz.isAgg0
 z0 := Tryz.sizeOf0
 v0 := Tryz.zeroValue0
 t3 := Tryz.underlying3
 a3 := Tryz.isAgg3
 z3 := Tryz.sizeOf3
 v3 := Tryz.zeroValue3
 t4 := Tryz.underlying4
 a4 := Tryz.isAgg4
 z4 := Tryz.sizeOf4
 v4 := Tryz.zeroValue4
 t22 := Tryz.underlying27
 a22 := Tryz.isAgg27
 z22 := Tryz.sizeOf27
 v22 := Tryz.zeroValue27
 a23 := Tryz.isAgg25
 z23 := Tryz.sizeOf25
 t25 := Tryz.underlying159
 a25 := Tryz.isAgg159
 z25 := Tryz.sizeOf159
 v25 := Tryz.zeroValue159 }
open Go.RowKit Go.Lib Go.Sort in
theorem Tryz.slices_DeleteFunc {α : Type} [Inhabited α] (enc : α → Value) (hO : OneCell enc) (p : α → Bool) (g : Nat) (lb : Array Value) (eg : ∀ args w, (callFunc g args).run Tryz.prog w = .ok (.enter g args) w) (zr : α) (v23 : ∀ w, (zeroValue 25).run Tryz.prog w = .ok (enc zr) w) (blk off cap : Nat) (d : Array α) (w : World) (hp : PredAt Tryz.prog g lb enc p w) (hpo : PredOver Tryz.prog g lb enc p blk off d.size w) (hH : Holds enc w blk off d) (hsz : d.size ≤ 9223372036854775807) (hcap : d.size ≤ cap) :
    Calls Tryz.prog 184 #[.slice (some ⟨blk, off, none⟩) d.size cap, .func (.func g) #[] lb] w fun e w' => e = .returned (.slice (some ⟨blk, off, none⟩) (d.toList.filter fun x => !p x).length cap) ∧ ∃ q, w' = putRow enc (Sort.ahead w q) blk off ((d.toList.filter fun x => !p x) ++ List.replicate (d.size - (d.toList.filter fun x => !p x).length) zr).toArray := AnyE.slices_DeleteFunc Tryz.laysSlH10_f184 enc hO p g lb eg zr v23 blk off cap d w hp hpo hH hsz hcap
def Tryz.laysSlF20_f244_ren : Go.Shelf.Ren := ⟨fun | 20 => 244 | n => n, fun | 24 => 25 | 22 => 27 | 3 => 3 | 25 => 163 | 4 => 4 | 0 => 0 | n => n, fun | n => n⟩
theorem Tryz.laysSlF20_f244 : Go.Proofs.SlLaysF.n20 Tryz.prog Tryz.laysSlF20_f244_ren := {
 mixed := by kernel_rfl
 f20 := ⟨Tryz.f244.name, by decide, Tryz.func244.trans (congrArg some (by kernel_rfl))⟩
 t0 := Tryz.underlying0
 a0 := Tryz.isAgg0
 z0 := Tryz.sizeOf0
 v0 := Tryz.zeroValue0
 t3 := Tryz.underlying3
 a3 := Tryz.isAgg3
 z3 := Tryz.sizeOf3
 v3 := Tryz.zeroValue3
 t4 := Tryz.underlying4
 a4 := Tryz.isAgg4
 z4 := Tryz.sizeOf4
 v4 := Tryz.zeroValue4
 t22 := Tryz.underlying27
 a22 := Tryz.isAgg27
 z22 := Tryz.sizeOf27
 v22 := Tryz.zeroValue27
 a24 := Tryz.isAgg25
 z24 := Tryz.sizeOf25
 t25 := Tryz.underlying163
 a25 := Tryz.isAgg163
 z25 := Tryz.sizeOf163
 v25 := Tryz.zeroValue163 }
open Go.RowKit Go.Lib Go.Sort in
theorem Tryz.insertionSortCmpFunc_s {α : Type} [Inhabited α] (enc : α → Value) (cf : α → α → Int) (g : Nat) (cb : Array Value) (blk off cap a b : Nat) (d0 d : Array α) (w0 w : World) (eg : ∀ args w, (callFunc g args).run Tryz.prog w = .ok (.enter g args) w) (hcmp : CmpLays1 Tryz.prog g cb enc cf blk off d0.size w0) (R : Row1 enc w0 blk off d0) (hs : d0.size = d.size) (S : SW enc w0 blk off d w) (hab : a ≤ b) (hb : b ≤ d.size) (hsz : d.size < 4611686018427387904) :
    Calls Tryz.prog 244 #[.slice (some ⟨blk, off, none⟩) d.size cap, .int .i64 a, .int .i64 b, .func (.func g) #[] cb] w fun e w' => e = .returned (.tuple #[]) ∧ SW enc w0 blk off (Sort.insertionSort (ltOf cf) d a b) w' := Any.insertionSortCmpFunc_s Tryz.laysSlF20_f244 enc cf g cb blk off cap a b d0 d w0 w eg hcmp R hs S hab hb hsz
end Go.Proofs
namespace Go.Proofs.YtgjkgkgieeoalaaGreat
open Go.RowKit
open Go.Sort hiding Below
abbrev SV := Option Addr × Nat × Nat
def encS (x : SV) : Value := .slice x.1 x.2.1 x.2.2
theorem encS_one : OneCell encS := fun _ => rfl
structure RowS (w : World) (base g cap : Nat) (S : List SV) : Prop where
 bk : ∃ cs : Array Value, Bk w g 25 cs ∧ ∀ (j : Nat) (x : SV), S[j]? = some x → cs[j]? = some (encS x)
 base : base ≤ g
 le : S.length ≤ cap
 cap : cap ≤ maxLen
section
variable {w w' : World} {base g cap b0 : Nat} {S S' : List SV} {ps : List (List TermD)}
theorem RowS.lt (h : RowS w base g cap S) : g < w.heap.size := let ⟨_, hk, _⟩ := h.bk; hk.lt
theorem RowS.up (h : RowS w base g cap S) (hb : Below w.heap.size w w') : RowS w' base g cap S := let ⟨cs, hk, hc⟩ := h.bk; ⟨⟨cs, hk.up hb, hc⟩, h.base, h.le, h.cap⟩
theorem RowS.cell (h : RowS w base g cap S) {j : Nat} {x : SV} (hj : S[j]? = some x) : w.cell? ⟨g, j, none⟩ = some (encS x) := by
 obtain ⟨cs, hk, hc⟩ := h.bk
 rw [hk.cell]; exact hc j x hj
theorem RowS.froz (h : RowS w base g cap S) (j : Nat) : w.frozen? ⟨g, j, none⟩ = false := let ⟨_, hk, _⟩ := h.bk; hk.froz j
theorem RowS.holds (h : RowS w base g cap S) : Holds encS w g 0 S.toArray := fun j hj => by
 have hj' : j < S.length := by simpa using hj
 rw [Nat.zero_add]
 refine ⟨?_, h.froz j⟩
 rw [h.cell (List.getElem?_eq_getElem hj')]
 congr 2
 rw [getElem!_pos _ j hj]; simp
theorem RowS.of_own {n : Nat} {cs : List Value} (h : w.ownsRow base 25 1 (.slice (some ⟨g, 0, none⟩) n cap) n cs) (hS : cs = S.map encS) : RowS w base g cap S := by
 have hn : S.length = n := by have := h.1; rw [hS, List.length_map] at this; omega
 rcases h.2 with ⟨e, _⟩ | ⟨g', cap', cur, e, h2, h3, h4, h5, h6, h7⟩
 ·cases e
 ·injection e with e1 e2 e3
  injection e1 with e1
  injection e1 with e1
  subst e1 e3
  refine ⟨⟨cur, h3, fun j x hj => ?_⟩, h2, by omega, h5⟩
  have hj2 : j < n := by rw [← hn]; exact (List.getElem?_eq_some_iff.1 hj).1
  have e2 : (cs)[j]? = some (encS x) := by rw [hS, List.getElem?_map, hj]; rfl
  rw [← h7, List.getElem?_take, if_pos (by omega)] at e2
  simpa using e2
theorem RowS.set (h : RowS w base g cap S) {j : Nat} (hj : j < S.length) (x : SV) : RowS (w.setCell ⟨g, j, none⟩ (encS x)) base g cap (S.set j x) := by
 obtain ⟨cs, hk, hc⟩ := h.bk
 refine ⟨⟨_, hk.set_ j (encS x), fun i y hy => ?_⟩, h.base, by rw [List.length_set]; exact h.le, h.cap⟩
 have hjc : j < cs.size := by
  have := hc j _ (List.getElem?_eq_getElem hj)
  exact (Array.getElem?_eq_some_iff.1 this).1
 rw [Array.getElem?_setIfInBounds]
 by_cases e : j = i
 ·subst e
  rw [List.getElem?_set_self hj] at hy
  injection hy with hy
  rw [if_pos rfl, if_pos hjc, hy]
 ·rw [List.getElem?_set_ne e] at hy
  rw [if_neg e]; exact hc i y hy
theorem put_grown (w : World) (g q : Nat) (d : Array SV) : w.grownBy (putRow encS (Go.Sort.ahead w q) g 0 d) (some g) := by
 refine ⟨rfl, rfl, rfl, ?_, fun k hk hne => ?_⟩
 ·simp [putRow, mapBlock, Go.Sort.ahead]
 ·simp only [putRow, mapBlock, Go.Sort.ahead]
  rw [Array.getElem?_modify, if_neg (fun e => hne (by rw [e]))]
theorem RowS.put (h : RowS w base g cap S) (q : Nat) (d : Array SV) (hd : ∀ (j : Nat) (x : SV), S'[j]? = some x → d[j]? = some x) (hl : S'.length ≤ S.length) : RowS (putRow encS (Go.Sort.ahead w q) g 0 d) base g cap S' := by
 obtain ⟨cs, hk, hc⟩ := h.bk
 refine ⟨⟨putCells encS 0 d cs, ?_, fun j x hj => ?_⟩, h.base, Nat.le_trans hl h.le, h.cap⟩
 ·unfold Bk at hk ⊢
  simp only [putRow, mapBlock, Go.Sort.ahead]
  rw [Array.getElem?_modify, if_pos rfl, hk]
  rfl
 ·have h1 := hd j x hj
  have hj1 : j < S'.length := (List.getElem?_eq_some_iff.1 hj).1
  have hjc : j < cs.size := by
   have := hc j _ (List.getElem?_eq_getElem (Nat.lt_of_lt_of_le hj1 hl))
   exact (Array.getElem?_eq_some_iff.1 this).1
  obtain ⟨hjd, h2⟩ := Array.getElem?_eq_some_iff.1 h1
  unfold putCells
  rw [Array.getElem?_mapIdx, Array.getElem?_eq_getElem hjc, Option.map_some, if_pos ⟨Nat.zero_le _, by omega⟩, Nat.sub_zero, getElem!_pos d j hjd, h2]
structure RowP (w : World) (b0 base g cap : Nat) (S : List SV) (ps : List (List TermD)) : Prop where
 row : RowS w base g cap S
 len : S.length = ps.length
 low : b0 ≤ base
 each : ∀ (j : Nat) (p : List TermD), ps[j]? = some p → ∃ a c, S[j]? = some (a, p.length, c) ∧ p.length ≤ c ∧ RPol w b0 a p ∧ (p ≠ [] → ∀ ad, a = some ad → ad.block ≠ g)
theorem RowP.up (h : RowP w b0 base g cap S ps) (hb : Below w.heap.size w w') : RowP w' b0 base g cap S ps :=
 ⟨h.row.up hb, h.len, h.low, fun j p hj => let ⟨a, c, h1, h2, h3, h4⟩ := h.each j p hj; ⟨a, c, h1, h2, h3.up hb, h4⟩⟩
theorem RowP.le (h : RowP w b0 base g cap S ps) : ps.length ≤ cap := h.len ▸ h.row.le
theorem RowP.rok (h : RowP w b0 base g cap S ps) : Rok w b0 (some g) := fun k e => by
 injection e with e
 subst e
 obtain ⟨cs, hk, _⟩ := h.row.bk
 exact ⟨Nat.le_trans h.low h.row.base, _, _, hk, by decide⟩
theorem RowP.part (h : RowP w b0 base g cap S ps) {i n : Nat} (hn : i + n ≤ ps.length) : RPols w b0 (some ⟨g, i, none⟩) ((ps.drop i).take n) := by
 have hl : ((ps.drop i).take n).length = n := by simp; omega
 refine ⟨(S.drop i).take n |>.map encS, ⟨by simp only [List.length_map, List.length_take, List.length_drop, h.len, Nat.mul_one], fun hpos => ⟨_, rfl, h.row.lt, fun j u hu => ?_⟩⟩, fun j p hj => ?_⟩
 ·rw [List.getElem?_map] at hu
  cases hx : ((S.drop i).take n)[j]? with
  | none => rw [hx] at hu; cases hu
  | some x =>
    rw [hx] at hu
    injection hu with hu
    rw [List.getElem?_take] at hx
    split at hx
    ·rw [List.getElem?_drop] at hx
     rw [add_win, h.row.cell hx, ← hu]
    ·cases hx
 ·rw [List.getElem?_take] at hj
  split at hj
  ·rename_i hjn
   rw [List.getElem?_drop] at hj
   obtain ⟨a, c, h1, h2, h3, _⟩ := h.each _ p hj
   exact ⟨a, c, by rw [List.getElem?_map, List.getElem?_take, if_pos hjn, List.getElem?_drop, h1]; rfl, h2, h3⟩
  ·cases hj
theorem RowP.all (h : RowP w b0 base g cap S ps) : RPols w b0 (some ⟨g, 0, none⟩) ps := by
 have := h.part (i := 0) (n := ps.length) (by omega)
 simpa using this
theorem RowP.get (h : RowP w b0 base g cap S ps) {j : Nat} (hj : j < ps.length) : ∃ a c p, Hd (ps[j]? = some p) ∧ w.cell? ⟨g, j, none⟩ = some (.slice a p.length c) ∧ p.length ≤ c ∧ Hd (RPol w b0 a p) := by
 obtain ⟨a, c, h1, h2, h3, _⟩ := h.each j _ (List.getElem?_eq_getElem hj)
 exact ⟨a, c, ps[j], ⟨List.getElem?_eq_getElem hj⟩, h.row.cell h1, h2, ⟨h3⟩⟩
theorem RowP.keep (h : RowP w b0 base g cap S ps) (hg : w.grownBy w' (some g)) {a : Option Addr} {p : List TermD} (hr : RPol w b0 a p) (hne : p ≠ [] → ∀ ad, a = some ad → ad.block ≠ g) : RPol w' b0 a p :=
 hr.grown hg (fun hn ad e e2 => by injection e2 with e2; exact hne hn ad e e2.symm) h.rok
theorem RowP.set (h : RowP w b0 base g cap S ps) {j : Nat} (hj : j < ps.length) {a : Option Addr} {c : Nat} {p : List TermD} (hr : RPol w b0 a p) (hc : p.length ≤ c) (hne : p ≠ [] → ∀ ad, a = some ad → ad.block ≠ g) :
    RowP (w.setCell ⟨g, j, none⟩ (.slice a p.length c)) b0 base g cap (S.set j (a, p.length, c)) (ps.set j p) := by
 have hg := set_grown w ⟨g, j, none⟩ (.slice a p.length c)
 refine ⟨h.row.set (by rw [h.len]; exact hj) (a, p.length, c), by rw [List.length_set, List.length_set, h.len], h.low, fun i q hi => ?_⟩
 by_cases e : j = i
 ·subst e
  rw [List.getElem?_set_self hj] at hi
  injection hi with hi
  subst hi
  exact ⟨a, c, List.getElem?_set_self (by rw [h.len]; exact hj), hc, h.keep hg hr hne, hne⟩
 ·rw [List.getElem?_set_ne e] at hi
  obtain ⟨a', c', h1, h2, h3, h4⟩ := h.each i q hi
  exact ⟨a', c', by rw [List.getElem?_set_ne e]; exact h1, h2, h.keep hg h3 h4, h4⟩
theorem RowP.put (h : RowP w b0 base g cap S ps) (q : Nat) (d : Array SV) {qs : List (List TermD)} (hd : ∀ (j : Nat) (x : SV), S'[j]? = some x → d[j]? = some x) (hl : S'.length ≤ S.length) (hq : S'.length = qs.length)
    (hm : ∀ (j : Nat) (p : List TermD), qs[j]? = some p → ∃ i : Nat, ps[i]? = some p ∧ S'[j]? = S[i]?) : RowP (putRow encS (Go.Sort.ahead w q) g 0 d) b0 base g cap S' qs :=
 ⟨h.row.put q d hd hl, hq, h.low, fun j p hj => by
  obtain ⟨i, h1, h2⟩ := hm j p hj
  obtain ⟨a, c, h3, h4, h5, h6⟩ := h.each i p h1
  exact ⟨a, c, h2.trans h3, h4, h.keep (put_grown w g q d) h5 h6, h6⟩⟩
end
def unS : Value → SV
 | .slice a n c => (a, n, c)
 | _ => (none, 0, 0)
theorem Tryz.zvPoly (w : World) : (zeroValue 25).run Tryz.prog w = .ok (encS (none, 0, 0)) w := Tryz.zeroValue25 w
theorem polys_Clone (b0 b off c : Nat) (ps : List (List TermD)) (w : World) (hb0 : b0 ≤ w.heap.size) (h : RPols w b0 (some ⟨b, off, none⟩) ps) (hn : ps.length ≤ 1000) :
    Calls Tryz.prog 185 #[.slice (some ⟨b, off, none⟩) ps.length c] w fun e w' => ∃ g cap S, e = .returned (.slice (some ⟨g, 0, none⟩) ps.length cap) ∧ RowP w' b0 w.heap.size g cap S ps ∧ Below w.heap.size w w' := by
 obtain ⟨i0, hi, hz0, hz1, hz2⟩ := info_split Tryz.infPoly
 obtain ⟨cs, h1, h2⟩ := h
 have hcs : cs = (cs.map unS).map encS := by
  rw [List.map_map]
  refine (List.map_id _).symm.trans (List.map_congr_left fun u hu => ?_)
  obtain ⟨j, hj, rfl⟩ := List.getElem_of_mem hu
  have hj2 : j < ps.length := by have := h1.1; omega
  obtain ⟨a, c', e, _⟩ := h2 j _ (List.getElem?_eq_getElem hj2)
  rw [List.getElem?_eq_getElem hj] at e
  injection e with e
  rw [id, e]; rfl
 have hone : ∀ u ∈ cs, u.oneCell' = true := fun u hu => by
  rw [hcs] at hu
  obtain ⟨x, _, rfl⟩ := List.mem_map.1 hu
  rfl
 have hcell : ∀ (j : Nat) (u : Value), cs[j]? = some u → w.cell? ⟨b, off + j, none⟩ = some u := fun j u hu => by
  have hpos : 0 < ps.length := by
   have h3 := (List.getElem?_eq_some_iff.1 hu).1
   have := h1.1
   omega
  obtain ⟨ad, e, _, hc⟩ := h1.2 hpos
  injection e with e
  subst e
  have := hc j u hu
  rwa [add_win] at this
 refine (Tryz.slices_Clone_f185 i0 _ 1 24 hi hz0 hz1 hz2 rfl (by decide) Tryz.sizeOf25 b off ps.length c cs w h1.1 (by unfold maxLen; omega) (by omega) hcell hone).mono ?_
 rintro e w' ⟨v, rfl, ho, hnil, hb⟩
 obtain ⟨g, cap, rfl⟩ : ∃ g cap, v = .slice (some ⟨g, 0, none⟩) ps.length cap := by
  rcases ho.2 with ⟨e, _⟩ | ⟨g, cap, _, e, _⟩
  ·exact absurd e hnil
  ·exact ⟨g, cap, e⟩
 have hrow := RowS.of_own ho hcs
 refine ⟨g, cap, cs.map unS, rfl, ⟨hrow, by rw [List.length_map]; have := h1.1; omega, hb0, fun j p hj => ?_⟩, hb⟩
 obtain ⟨a, c', e, h3, h4⟩ := h2 j p hj
 refine ⟨a, c', by rw [List.getElem?_map, e]; rfl, h3, h4.up hb, fun hne ad ea e2 => ?_⟩
 have h5 := h4.at0 hne ad ea
 have h6 := hrow.base
 omega
theorem polys_Delete (b0 base g cap i : Nat) (S : List SV) (ps : List (List TermD)) (w : World) (h : RowP w b0 base g cap S ps) (hi : i < ps.length) :
    Calls Tryz.prog 188 #[.slice (some ⟨g, 0, none⟩) ps.length cap, .int .i64 i, .int .i64 ((i + 1 : Nat) : Int)] w fun e w' => ∃ S', e = .returned (.slice (some ⟨g, 0, none⟩) (ps.eraseIdx i).length cap) ∧ RowP w' b0 base g cap S' (ps.eraseIdx i) ∧ w.grownBy w' (some g) := by
 obtain ⟨i0, hi0, hz0, hz1, hz2⟩ := info_split Tryz.infPoly
 have hS := h.len
 have hd := Tryz.slices_Delete encS encS_one (none, 0, 0) Tryz.zvPoly i0 hi0 hz1 g 0 cap i (i + 1) S.toArray w h.row.holds (by simpa using h.row.le) h.row.cap (Nat.le_succ _) (by simp; omega)
 rw [List.size_toArray, hS] at hd
 refine hd.mono ?_
 rintro e w' ⟨rfl, q, rfl⟩
 have he : S.eraseIdx i = S.take i ++ S.drop (i + 1) := List.eraseIdx_eq_take_drop_succ ..
 have hl1 : (ps.eraseIdx i).length = ps.length - 1 := by rw [List.length_eraseIdx, if_pos hi]
 have hl2 : (S.eraseIdx i).length = S.length - 1 := by rw [List.length_eraseIdx, if_pos (by omega)]
 refine ⟨S.eraseIdx i, by rw [hl1, show i + 1 - i = 1 by omega], h.put (S' := S.eraseIdx i) (qs := ps.eraseIdx i) q _ (fun j x hj => ?_) (by omega) (by omega) (fun j p hj => ?_), put_grown w g q _⟩
 ·have hjl := (List.getElem?_eq_some_iff.1 hj).1
  rw [List.getElem?_toArray, ← he, List.getElem?_append_left hjl]
  exact hj
 ·rw [List.getElem?_eraseIdx] at hj
  by_cases hji : j < i
  ·rw [if_pos hji] at hj
   exact ⟨j, hj, by rw [List.getElem?_eraseIdx, if_pos hji]⟩
  ·rw [if_neg hji] at hj
   exact ⟨j + 1, hj, by rw [List.getElem?_eraseIdx, if_neg hji]⟩
theorem reduce_others (b0 b off c i : Nat) (ps : List (List TermD)) (w : World) (hb0 : b0 ≤ w.heap.size) (h : RPols w b0 (some ⟨b, off, none⟩) ps) (hn : ps.length ≤ 1000) (hi : i < ps.length) :
    Calls Tryz.prog 111 #[.slice (some ⟨b, off, none⟩) ps.length c, .int .i64 i] w fun e w' => ∃ g cap S, e = .returned (.slice (some ⟨g, 0, none⟩) (ps.eraseIdx i).length cap) ∧ RowP w' b0 w.heap.size g cap S (ps.eraseIdx i) ∧ Below w.heap.size w w' := by
 have CC := Hd.mk (polys_Clone b0 b off c ps w hb0 h hn)
 have HI := Hd.mk hi
 clear h
 go_enter Tryz.func111, Tryz.ntmps111
 go_wp2_with fail
 refine CC.out.mono ?_
 rintro e w2 ⟨g, cap, S, rfl, hr, hb⟩
 have CD := Hd.mk (polys_Delete b0 w.heap.size g cap i S ps w2 hr HI.out)
 have HB := Hd.mk hb
 have HR := Hd.mk hr
 clear CC hr hb
 rw [show (((i + 1 : Nat) : Int)) = (i : Int) + 1 by omega] at CD
 go_wp2_with fail
 refine CD.out.mono ?_
 rintro e w3 ⟨S', rfl, hr, hg⟩
 have HR3 := Hd.mk hr
 have HB3 := Hd.mk (HB.out.grown hg HB.out.size fun k e => by injection e with e; subst e; exact HR.out.row.base)
 clear hr hg CD
 go_wp2_with fail
 go_ret
 exact ⟨g, cap, S', rfl, HR3.out, HB3.out⟩
theorem full_1 (x : SV) (W : World) : FnGives Tryz.prog 186 #[] #[encS x] (.bool (decide (x.2.1 = 0))) W := by
 obtain ⟨a, n, c⟩ := x
 unfold FnGives
 show Calls Tryz.prog 186 #[.slice a n c] W _
 by_cases h : n = 0
 ·have e : ((n : Int) == 0) = true := by rw [h]; rfl
  go_enter Tryz.func186, Tryz.ntmps186
  go_wp2_with fail
  go_ret
  exact ⟨by rw [decide_eq_true h]; rfl, 0, rfl⟩
 ·have e : ((n : Int) == 0) = false := by rw [beq_eq_false_iff_ne]; omega
  go_enter Tryz.func186, Tryz.ntmps186
  go_wp2_with fail
  go_ret
  exact ⟨by rw [decide_eq_false h]; rfl, 0, rfl⟩
theorem filt_pair {α β : Type} {f : α → Bool} {f' : β → Bool} : ∀ {S : List α} {ps : List β}, S.length = ps.length → (∀ (j : Nat) x p, S[j]? = some x → ps[j]? = some p → f x = f' p) →
    (S.filter f).length = (ps.filter f').length ∧ ∀ (j : Nat) p, (ps.filter f')[j]? = some p → ∃ i : Nat, ps[i]? = some p ∧ (S.filter f)[j]? = S[i]?
 | [], [], _, _ => ⟨rfl, fun j p h => by simp at h⟩
 | [], _ :: _, h, _ => by simp at h
 | _ :: _, [], h, _ => by simp at h
 | x :: S, p :: ps, h, hf => by
   have e := hf 0 x p rfl rfl
   obtain ⟨i1, i2⟩ := filt_pair (f := f) (f' := f') (S := S) (ps := ps) (by simpa using h) fun j y q hy hq => hf (j + 1) y q (by simpa using hy) (by simpa using hq)
   cases hp : f' p
   ·rw [hp] at e
    rw [List.filter_cons_of_neg (by rw [e]; simp), List.filter_cons_of_neg (by rw [hp]; simp)]
    exact ⟨i1, fun j q hq => let ⟨i, a, b⟩ := i2 j q hq; ⟨i + 1, by simpa using a, by simpa using b⟩⟩
   ·rw [hp] at e
    rw [List.filter_cons_of_pos e, List.filter_cons_of_pos hp]
    refine ⟨by simp [i1], fun j q hq => ?_⟩
    cases j with
    | zero => exact ⟨0, by simpa using hq, rfl⟩
    | succ j =>
      obtain ⟨i, a, b⟩ := i2 j q (by simpa using hq)
      exact ⟨i + 1, by simpa using a, by simpa using b⟩
theorem reduce_full (b0 b off c : Nat) (ps : List (List TermD)) (w : World) (hb0 : b0 ≤ w.heap.size) (h : RPols w b0 (some ⟨b, off, none⟩) ps) (hn : ps.length ≤ 1000) :
    Calls Tryz.prog 105 #[.slice (some ⟨b, off, none⟩) ps.length c] w fun e w' => ∃ g cap S, e = .returned (.slice (some ⟨g, 0, none⟩) (fullD ps).length cap) ∧ RowP w' b0 w.heap.size g cap S (fullD ps) ∧ Below w.heap.size w w' := by
 have CC := Hd.mk (polys_Clone b0 b off c ps w hb0 h hn)
 clear h
 have HN := Hd.mk hn
 go_enter Tryz.func105, Tryz.ntmps105
 go_wp2_with fail
 refine CC.out.mono ?_
 rintro e w2 ⟨g, cap, S, rfl, hr, hb⟩
 have hfl : S.length = ps.length := hr.len
 have hp := filt_pair (f := fun x : SV => !decide (x.2.1 = 0)) (f' := fun p : List TermD => !decide (p.length = 0)) hfl fun j x p hx hq => by
  obtain ⟨a, c', h1, _⟩ := hr.each j p hq
  rw [h1] at hx
  injection hx with hx
  subst hx; rfl
 have hd := Tryz.slices_DeleteFunc encS encS_one (fun x : SV => decide (x.2.1 = 0)) 186 #[] (enters_of Tryz.func186 (by kernel_rfl) rfl) (none, 0, 0) Tryz.zvPoly g 0 cap S.toArray w2 (fun W x _ => full_1 x W) (fun _ _ _ x _ => full_1 x _) hr.row.holds (by simp; omega) (by simpa using hr.row.le)
 rw [List.size_toArray, hfl] at hd
 have CD : Hd (Calls Tryz.prog 184 #[.slice (some ⟨g, 0, none⟩) ps.length cap, .func (.func 186) #[] #[]] w2 fun e w' => ∃ S', e = .returned (.slice (some ⟨g, 0, none⟩) (fullD ps).length cap) ∧ RowP w' b0 w.heap.size g cap S' (fullD ps) ∧ w2.grownBy w' (some g)) := ⟨by
  refine hd.mono ?_
  rintro e w' ⟨rfl, q, rfl⟩
  have hle := List.length_filter_le (fun x : SV => !decide (x.2.1 = 0)) S
  refine ⟨S.filter fun x => !decide (x.2.1 = 0), by rw [show (fullD ps).length = _ from hp.1.symm], hr.put (S' := S.filter fun x => !decide (x.2.1 = 0)) (qs := fullD ps) q _ (fun j x hj => ?_) hle hp.1 hp.2, put_grown w2 g q _⟩
  have hjl := (List.getElem?_eq_some_iff.1 hj).1
  rw [List.getElem?_toArray, List.getElem?_append_left hjl]
  exact hj⟩
 have HB := Hd.mk hb
 have HR := Hd.mk hr
 clear CC hr hb hp hd hfl
 go_wp2_with fail
 refine CD.out.mono ?_
 rintro e w3 ⟨S', rfl, hr, hg⟩
 have HR3 := Hd.mk hr
 have HB3 := Hd.mk (HB.out.grown hg HB.out.size fun k e => by injection e with e; subst e; exact HR.out.row.base)
 clear hr hg CD
 go_wp2_with fail
 go_ret
 exact ⟨g, cap, S', rfl, HR3.out, HB3.out⟩
end Go.Proofs.YtgjkgkgieeoalaaGreat
