/-
  No cell of these rows narrows 'for every input' (looked for: loops, veiled, ifaces, maps, wideKeys, modest, calm, conditions, laid).
  DERIVED. THE GIVEN ROWS OF THIS SEAT. 11 by the template 'for every input the law returns true; each argument reads behind the call as it read before'; 0 by the template 'total and deterministic' (their statements: YtjanagclahkfdaaGreatTotals.lean).
  GIVEN WITH THE SEED: the statements are not yours to turn. If you find one false, say at which input.
  Laid BY PROGRAM, IN A SANDBOX (cutbox-rows.mjs): the forced cells as the released guide's own fill.sh prints them over the translation e53702c6120b077b… (all of the seat's roots in one cut). By AI agents, Wed Nov 11 2026. No macro, syntax, notation, axiom, sorry.
-/
import Derived.Test.YtjanagclahkfdaaGreatChecked
import GoSem.Claim
import GoSem.ClaimJoined
import GoSem.ClaimMapViews
import Derived.JoinedTies
import Derived.KernelRfl
namespace Go.Proofs.YtjanagclahkfdaaGreat
/- THE CELL 'sum', in the pinned program and in every row, IS THE sha256 OF THE DUMP (.gsa) THAT YtjanagclahkfdaaGreatProg.lean LOADS. Nothing in Lean hashes anything: it is a label: what it is worth is what the hold of that sum in a sandbox is worth. -/
noncomputable def Tryz.pinned : Pinned := { name := "ytjanagclahkfdaagreat", sum := "e53702c6120b077be01d217cf56e0789ad4ceb971598aa89a1917e62dc50e7be", checked := Tryz.checked }
namespace Rows
def none {H : Type} : Left H := { results := [], args := [] }

/-- 'syzygylaw12.DivideTells': WHATEVER THE INPUT: true; the input reads as it did. -/
def divideTellsSpec : ChangeSpec := { name := "divideTells", fn := fun _ => fun
  | [d1, d2, d3] => { results := [.lit (.bool true)], args := [d1, d2, d3] }
  | _ => none }
def divideTellsRow : OpenClaim := { program := "ytjanagclahkfdaagreat", sum := "e53702c6120b077be01d217cf56e0789ad4ceb971598aa89a1917e62dc50e7be", func := "syzygy/syzygylaw12.DivideTells", spec := "divideTells", inPlace := ["math/bits.Add64", "math/bits.Sub64"], unfollowed := true, recurses := true, named := ["math/bits.divideError", "math/bits.overflowError"], plainKeys := false, apart := false }
def DivideTellsSaid : Prop := divideTellsRow.holds Tryz.pinned (OpenSpec.ofChange divideTellsSpec)

/-- ITS FALSE NEIGHBOUR: 'it returns false'. Refute it at one input. -/
def divideTellsWrong : ChangeSpec := { name := "divideTells", fn := fun _ => fun
  | [d1, d2, d3] => { results := [.lit (.bool false)], args := [d1, d2, d3] }
  | _ => none }
def DivideTellsWrongFalsely : Prop := divideTellsRow.holds Tryz.pinned (OpenSpec.ofChange divideTellsWrong)

/-- 'syzygylaw12.DivideBack': WHATEVER THE INPUT: true; the input reads as it did. -/
def divideBackSpec : ChangeSpec := { name := "divideBack", fn := fun _ => fun
  | [d1, d2, d3] => { results := [.lit (.bool true)], args := [d1, d2, d3] }
  | _ => none }
def divideBackRow : OpenClaim := { program := "ytjanagclahkfdaagreat", sum := "e53702c6120b077be01d217cf56e0789ad4ceb971598aa89a1917e62dc50e7be", func := "syzygy/syzygylaw12.DivideBack", spec := "divideBack", inPlace := ["math/bits.Add64", "math/bits.Sub64"], unfollowed := true, recurses := true, named := ["math/bits.divideError", "math/bits.overflowError"], plainKeys := false, apart := false }
def DivideBackSaid : Prop := divideBackRow.holds Tryz.pinned (OpenSpec.ofChange divideBackSpec)

/-- ITS FALSE NEIGHBOUR: 'it returns false'. Refute it at one input. -/
def divideBackWrong : ChangeSpec := { name := "divideBack", fn := fun _ => fun
  | [d1, d2, d3] => { results := [.lit (.bool false)], args := [d1, d2, d3] }
  | _ => none }
def DivideBackWrongFalsely : Prop := divideBackRow.holds Tryz.pinned (OpenSpec.ofChange divideBackWrong)

/-- 'syzygylaw12.DivideLeads': WHATEVER THE INPUT: true; the input reads as it did. -/
def divideLeadsSpec : ChangeSpec := { name := "divideLeads", fn := fun _ => fun
  | [d1, d2, d3] => { results := [.lit (.bool true)], args := [d1, d2, d3] }
  | _ => none }
def divideLeadsRow : OpenClaim := { program := "ytjanagclahkfdaagreat", sum := "e53702c6120b077be01d217cf56e0789ad4ceb971598aa89a1917e62dc50e7be", func := "syzygy/syzygylaw12.DivideLeads", spec := "divideLeads", inPlace := ["math/bits.Add64", "math/bits.Sub64"], unfollowed := true, recurses := true, named := ["math/bits.divideError", "math/bits.overflowError"], plainKeys := false, apart := false }
def DivideLeadsSaid : Prop := divideLeadsRow.holds Tryz.pinned (OpenSpec.ofChange divideLeadsSpec)

/-- ITS FALSE NEIGHBOUR: 'it returns false'. Refute it at one input. -/
def divideLeadsWrong : ChangeSpec := { name := "divideLeads", fn := fun _ => fun
  | [d1, d2, d3] => { results := [.lit (.bool false)], args := [d1, d2, d3] }
  | _ => none }
def DivideLeadsWrongFalsely : Prop := divideLeadsRow.holds Tryz.pinned (OpenSpec.ofChange divideLeadsWrong)

/-- 'syzygylaw12.DivideAgain': WHATEVER THE INPUT: true; the input reads as it did. -/
def divideAgainSpec : ChangeSpec := { name := "divideAgain", fn := fun _ => fun
  | [d1, d2, d3] => { results := [.lit (.bool true)], args := [d1, d2, d3] }
  | _ => none }
def divideAgainRow : OpenClaim := { program := "ytjanagclahkfdaagreat", sum := "e53702c6120b077be01d217cf56e0789ad4ceb971598aa89a1917e62dc50e7be", func := "syzygy/syzygylaw12.DivideAgain", spec := "divideAgain", inPlace := ["math/bits.Add64", "math/bits.Sub64"], unfollowed := true, recurses := true, named := ["math/bits.divideError", "math/bits.overflowError"], plainKeys := false, apart := false }
def DivideAgainSaid : Prop := divideAgainRow.holds Tryz.pinned (OpenSpec.ofChange divideAgainSpec)

/-- ITS FALSE NEIGHBOUR: 'it returns false'. Refute it at one input. -/
def divideAgainWrong : ChangeSpec := { name := "divideAgain", fn := fun _ => fun
  | [d1, d2, d3] => { results := [.lit (.bool false)], args := [d1, d2, d3] }
  | _ => none }
def DivideAgainWrongFalsely : Prop := divideAgainRow.holds Tryz.pinned (OpenSpec.ofChange divideAgainWrong)

/-- 'syzygylaw12.DivideNone': WHATEVER THE INPUT: true; the input reads as it did. -/
def divideNoneSpec : ChangeSpec := { name := "divideNone", fn := fun _ => fun
  | [d1, d2, d3] => { results := [.lit (.bool true)], args := [d1, d2, d3] }
  | _ => none }
def divideNoneRow : OpenClaim := { program := "ytjanagclahkfdaagreat", sum := "e53702c6120b077be01d217cf56e0789ad4ceb971598aa89a1917e62dc50e7be", func := "syzygy/syzygylaw12.DivideNone", spec := "divideNone", inPlace := ["math/bits.Add64", "math/bits.Sub64"], unfollowed := true, recurses := true, named := ["math/bits.divideError", "math/bits.overflowError"], plainKeys := false, apart := false }
def DivideNoneSaid : Prop := divideNoneRow.holds Tryz.pinned (OpenSpec.ofChange divideNoneSpec)

/-- ITS FALSE NEIGHBOUR: 'it returns false'. Refute it at one input. -/
def divideNoneWrong : ChangeSpec := { name := "divideNone", fn := fun _ => fun
  | [d1, d2, d3] => { results := [.lit (.bool false)], args := [d1, d2, d3] }
  | _ => none }
def DivideNoneWrongFalsely : Prop := divideNoneRow.holds Tryz.pinned (OpenSpec.ofChange divideNoneWrong)

/-- 'syzygylaw12.DivideOne': WHATEVER THE INPUT: true; the input reads as it did. -/
def divideOneSpec : ChangeSpec := { name := "divideOne", fn := fun _ => fun
  | [d1, d2, d3] => { results := [.lit (.bool true)], args := [d1, d2, d3] }
  | _ => none }
def divideOneRow : OpenClaim := { program := "ytjanagclahkfdaagreat", sum := "e53702c6120b077be01d217cf56e0789ad4ceb971598aa89a1917e62dc50e7be", func := "syzygy/syzygylaw12.DivideOne", spec := "divideOne", inPlace := ["math/bits.Add64", "math/bits.Sub64"], unfollowed := true, recurses := true, named := ["math/bits.divideError", "math/bits.overflowError"], plainKeys := false, apart := false }
def DivideOneSaid : Prop := divideOneRow.holds Tryz.pinned (OpenSpec.ofChange divideOneSpec)

/-- ITS FALSE NEIGHBOUR: 'it returns false'. Refute it at one input. -/
def divideOneWrong : ChangeSpec := { name := "divideOne", fn := fun _ => fun
  | [d1, d2, d3] => { results := [.lit (.bool false)], args := [d1, d2, d3] }
  | _ => none }
def DivideOneWrongFalsely : Prop := divideOneRow.holds Tryz.pinned (OpenSpec.ofChange divideOneWrong)

/-- 'syzygylaw13.PairBelow': WHATEVER THE INPUT: true; the input reads as it did. -/
def pairBelowSpec : ChangeSpec := { name := "pairBelow", fn := fun _ => fun
  | [d1, d2, d3] => { results := [.lit (.bool true)], args := [d1, d2, d3] }
  | _ => none }
def pairBelowRow : OpenClaim := { program := "ytjanagclahkfdaagreat", sum := "e53702c6120b077be01d217cf56e0789ad4ceb971598aa89a1917e62dc50e7be", func := "syzygy/syzygylaw13.PairBelow", spec := "pairBelow", inPlace := ["math/bits.Add64", "math/bits.Sub64"], unfollowed := true, recurses := true, named := ["math/bits.divideError", "math/bits.overflowError"], plainKeys := false, apart := false }
def PairBelowSaid : Prop := pairBelowRow.holds Tryz.pinned (OpenSpec.ofChange pairBelowSpec)

/-- ITS FALSE NEIGHBOUR: 'it returns false'. Refute it at one input. -/
def pairBelowWrong : ChangeSpec := { name := "pairBelow", fn := fun _ => fun
  | [d1, d2, d3] => { results := [.lit (.bool false)], args := [d1, d2, d3] }
  | _ => none }
def PairBelowWrongFalsely : Prop := pairBelowRow.holds Tryz.pinned (OpenSpec.ofChange pairBelowWrong)

/-- 'syzygylaw13.PairAll': WHATEVER THE INPUT: true; the input reads as it did. -/
def pairAllSpec : ChangeSpec := { name := "pairAll", fn := fun _ => fun
  | [d] => { results := [.lit (.bool true)], args := [d] }
  | _ => none }
def pairAllRow : OpenClaim := { program := "ytjanagclahkfdaagreat", sum := "e53702c6120b077be01d217cf56e0789ad4ceb971598aa89a1917e62dc50e7be", func := "syzygy/syzygylaw13.PairAll", spec := "pairAll", inPlace := ["math/bits.Add64", "math/bits.Sub64"], unfollowed := true, recurses := true, named := ["math/bits.divideError", "math/bits.overflowError"], plainKeys := false, apart := false }
def PairAllSaid : Prop := pairAllRow.holds Tryz.pinned (OpenSpec.ofChange pairAllSpec)

/-- ITS FALSE NEIGHBOUR: 'it returns false'. Refute it at one input. -/
def pairAllWrong : ChangeSpec := { name := "pairAll", fn := fun _ => fun
  | [d] => { results := [.lit (.bool false)], args := [d] }
  | _ => none }
def PairAllWrongFalsely : Prop := pairAllRow.holds Tryz.pinned (OpenSpec.ofChange pairAllWrong)

/-- 'syzygylaw13.PairApart': WHATEVER THE INPUT: true; the input reads as it did. -/
def pairApartSpec : ChangeSpec := { name := "pairApart", fn := fun _ => fun
  | [d1, d2, d3] => { results := [.lit (.bool true)], args := [d1, d2, d3] }
  | _ => none }
def pairApartRow : OpenClaim := { program := "ytjanagclahkfdaagreat", sum := "e53702c6120b077be01d217cf56e0789ad4ceb971598aa89a1917e62dc50e7be", func := "syzygy/syzygylaw13.PairApart", spec := "pairApart", inPlace := ["math/bits.Add64", "math/bits.Sub64"], unfollowed := true, recurses := true, named := ["math/bits.divideError", "math/bits.overflowError"], plainKeys := false, apart := false }
def PairApartSaid : Prop := pairApartRow.holds Tryz.pinned (OpenSpec.ofChange pairApartSpec)

/-- ITS FALSE NEIGHBOUR: 'it returns false'. Refute it at one input. -/
def pairApartWrong : ChangeSpec := { name := "pairApart", fn := fun _ => fun
  | [d1, d2, d3] => { results := [.lit (.bool false)], args := [d1, d2, d3] }
  | _ => none }
def PairApartWrongFalsely : Prop := pairApartRow.holds Tryz.pinned (OpenSpec.ofChange pairApartWrong)

/-- 'syzygylaw13.PairUseless': WHATEVER THE INPUT: true; the input reads as it did. -/
def pairUselessSpec : ChangeSpec := { name := "pairUseless", fn := fun _ => fun
  | [d1, d2, d3] => { results := [.lit (.bool true)], args := [d1, d2, d3] }
  | _ => none }
def pairUselessRow : OpenClaim := { program := "ytjanagclahkfdaagreat", sum := "e53702c6120b077be01d217cf56e0789ad4ceb971598aa89a1917e62dc50e7be", func := "syzygy/syzygylaw13.PairUseless", spec := "pairUseless", inPlace := ["math/bits.Add64", "math/bits.Sub64"], unfollowed := true, recurses := true, named := ["math/bits.divideError", "math/bits.overflowError"], plainKeys := false, apart := false }
def PairUselessSaid : Prop := pairUselessRow.holds Tryz.pinned (OpenSpec.ofChange pairUselessSpec)

/-- ITS FALSE NEIGHBOUR: 'it returns false'. Refute it at one input. -/
def pairUselessWrong : ChangeSpec := { name := "pairUseless", fn := fun _ => fun
  | [d1, d2, d3] => { results := [.lit (.bool false)], args := [d1, d2, d3] }
  | _ => none }
def PairUselessWrongFalsely : Prop := pairUselessRow.holds Tryz.pinned (OpenSpec.ofChange pairUselessWrong)

/-- 'syzygylaw13.PairChains': WHATEVER THE INPUT: true; the input reads as it did. -/
def pairChainsSpec : ChangeSpec := { name := "pairChains", fn := fun _ => fun
  | [d1, d2, d3] => { results := [.lit (.bool true)], args := [d1, d2, d3] }
  | _ => none }
def pairChainsRow : OpenClaim := { program := "ytjanagclahkfdaagreat", sum := "e53702c6120b077be01d217cf56e0789ad4ceb971598aa89a1917e62dc50e7be", func := "syzygy/syzygylaw13.PairChains", spec := "pairChains", inPlace := ["math/bits.Add64", "math/bits.Sub64"], unfollowed := true, recurses := true, named := ["math/bits.divideError", "math/bits.overflowError"], plainKeys := false, apart := false }
def PairChainsSaid : Prop := pairChainsRow.holds Tryz.pinned (OpenSpec.ofChange pairChainsSpec)

/-- ITS FALSE NEIGHBOUR: 'it returns false'. Refute it at one input. -/
def pairChainsWrong : ChangeSpec := { name := "pairChains", fn := fun _ => fun
  | [d1, d2, d3] => { results := [.lit (.bool false)], args := [d1, d2, d3] }
  | _ => none }
def PairChainsWrongFalsely : Prop := pairChainsRow.holds Tryz.pinned (OpenSpec.ofChange pairChainsWrong)

/- THE SECOND FORM. 'bulk': how many values and letters a reading holds, each counted each time it is reached (what is shared counts as often as it is met; a slice's spare places count too). A statement '..UptoSaid' is the law's where the arguments, and the package variables that the reading takes, are together of bulk at most 1048576: NARROWER than '..Said'. Prove '..Said' where nothing that the law and all that it calls make is longer than what came in: it says more and counts as full. Else prove '..UptoSaid'. A law counts once. -/
mutual
def uptoBulk {H : Type} : DataW H → Nat
  | .lit (.string bytes) => bytes.length + 1
  | .lit _ => 1
  | .nil => 1
  | .ptr d => uptoBulk d + 1
  | .slice elems spare => uptoBulkAll elems + uptoBulkAll spare + 1
  | .agg parts => uptoBulkAll parts + 1
  | .iface _ d => uptoBulk d + 1
  | .map entries => uptoBulkEntries entries + 1
  | .held _ => 1
def uptoBulkAll {H : Type} : List (DataW H) → Nat
  | [] => 0
  | d :: r => uptoBulk d + uptoBulkAll r
def uptoBulkEntries {H : Type} : List (Lit × DataW H) → Nat
  | [] => 0
  | x :: r => uptoBulkEntry x + uptoBulkEntries r
def uptoBulkEntry {H : Type} : Lit × DataW H → Nat
  | (.string bytes, d) => bytes.length + uptoBulk d + 1
  | (_, d) => uptoBulk d + 1
 end
def uptoSmall : (H : Type) → List (DataW H) → Bool := fun _ ds => decide (uptoBulkAll ds ≤ 1048576)
def OpenSpec.upto (s : _root_.Go.ChangeSpec) : _root_.Go.OpenSpec := { _root_.Go.OpenSpec.ofChange s with cond := some uptoSmall }

/-- 'syzygylaw12.DivideTells', WHERE WHAT IT READS IS OF BULK AT MOST 1048576: true; the input reads as it did. -/
def divideTellsUptoRow : OpenClaim := { program := "ytjanagclahkfdaagreat", sum := "e53702c6120b077be01d217cf56e0789ad4ceb971598aa89a1917e62dc50e7be", func := "syzygy/syzygylaw12.DivideTells", spec := "divideTells", inPlace := ["math/bits.Add64", "math/bits.Sub64"], unfollowed := true, recurses := true, named := ["math/bits.divideError", "math/bits.overflowError"], plainKeys := false, apart := false, narrowed := true }
def DivideTellsUptoSaid : Prop := divideTellsUptoRow.holds Tryz.pinned (OpenSpec.upto divideTellsSpec)

/-- 'syzygylaw12.DivideBack', WHERE WHAT IT READS IS OF BULK AT MOST 1048576: true; the input reads as it did. -/
def divideBackUptoRow : OpenClaim := { program := "ytjanagclahkfdaagreat", sum := "e53702c6120b077be01d217cf56e0789ad4ceb971598aa89a1917e62dc50e7be", func := "syzygy/syzygylaw12.DivideBack", spec := "divideBack", inPlace := ["math/bits.Add64", "math/bits.Sub64"], unfollowed := true, recurses := true, named := ["math/bits.divideError", "math/bits.overflowError"], plainKeys := false, apart := false, narrowed := true }
def DivideBackUptoSaid : Prop := divideBackUptoRow.holds Tryz.pinned (OpenSpec.upto divideBackSpec)

/-- 'syzygylaw12.DivideLeads', WHERE WHAT IT READS IS OF BULK AT MOST 1048576: true; the input reads as it did. -/
def divideLeadsUptoRow : OpenClaim := { program := "ytjanagclahkfdaagreat", sum := "e53702c6120b077be01d217cf56e0789ad4ceb971598aa89a1917e62dc50e7be", func := "syzygy/syzygylaw12.DivideLeads", spec := "divideLeads", inPlace := ["math/bits.Add64", "math/bits.Sub64"], unfollowed := true, recurses := true, named := ["math/bits.divideError", "math/bits.overflowError"], plainKeys := false, apart := false, narrowed := true }
def DivideLeadsUptoSaid : Prop := divideLeadsUptoRow.holds Tryz.pinned (OpenSpec.upto divideLeadsSpec)

/-- 'syzygylaw12.DivideAgain', WHERE WHAT IT READS IS OF BULK AT MOST 1048576: true; the input reads as it did. -/
def divideAgainUptoRow : OpenClaim := { program := "ytjanagclahkfdaagreat", sum := "e53702c6120b077be01d217cf56e0789ad4ceb971598aa89a1917e62dc50e7be", func := "syzygy/syzygylaw12.DivideAgain", spec := "divideAgain", inPlace := ["math/bits.Add64", "math/bits.Sub64"], unfollowed := true, recurses := true, named := ["math/bits.divideError", "math/bits.overflowError"], plainKeys := false, apart := false, narrowed := true }
def DivideAgainUptoSaid : Prop := divideAgainUptoRow.holds Tryz.pinned (OpenSpec.upto divideAgainSpec)

/-- 'syzygylaw12.DivideNone', WHERE WHAT IT READS IS OF BULK AT MOST 1048576: true; the input reads as it did. -/
def divideNoneUptoRow : OpenClaim := { program := "ytjanagclahkfdaagreat", sum := "e53702c6120b077be01d217cf56e0789ad4ceb971598aa89a1917e62dc50e7be", func := "syzygy/syzygylaw12.DivideNone", spec := "divideNone", inPlace := ["math/bits.Add64", "math/bits.Sub64"], unfollowed := true, recurses := true, named := ["math/bits.divideError", "math/bits.overflowError"], plainKeys := false, apart := false, narrowed := true }
def DivideNoneUptoSaid : Prop := divideNoneUptoRow.holds Tryz.pinned (OpenSpec.upto divideNoneSpec)

/-- 'syzygylaw12.DivideOne', WHERE WHAT IT READS IS OF BULK AT MOST 1048576: true; the input reads as it did. -/
def divideOneUptoRow : OpenClaim := { program := "ytjanagclahkfdaagreat", sum := "e53702c6120b077be01d217cf56e0789ad4ceb971598aa89a1917e62dc50e7be", func := "syzygy/syzygylaw12.DivideOne", spec := "divideOne", inPlace := ["math/bits.Add64", "math/bits.Sub64"], unfollowed := true, recurses := true, named := ["math/bits.divideError", "math/bits.overflowError"], plainKeys := false, apart := false, narrowed := true }
def DivideOneUptoSaid : Prop := divideOneUptoRow.holds Tryz.pinned (OpenSpec.upto divideOneSpec)

/-- 'syzygylaw13.PairBelow', WHERE WHAT IT READS IS OF BULK AT MOST 1048576: true; the input reads as it did. -/
def pairBelowUptoRow : OpenClaim := { program := "ytjanagclahkfdaagreat", sum := "e53702c6120b077be01d217cf56e0789ad4ceb971598aa89a1917e62dc50e7be", func := "syzygy/syzygylaw13.PairBelow", spec := "pairBelow", inPlace := ["math/bits.Add64", "math/bits.Sub64"], unfollowed := true, recurses := true, named := ["math/bits.divideError", "math/bits.overflowError"], plainKeys := false, apart := false, narrowed := true }
def PairBelowUptoSaid : Prop := pairBelowUptoRow.holds Tryz.pinned (OpenSpec.upto pairBelowSpec)

/-- 'syzygylaw13.PairAll', WHERE WHAT IT READS IS OF BULK AT MOST 1048576: true; the input reads as it did. -/
def pairAllUptoRow : OpenClaim := { program := "ytjanagclahkfdaagreat", sum := "e53702c6120b077be01d217cf56e0789ad4ceb971598aa89a1917e62dc50e7be", func := "syzygy/syzygylaw13.PairAll", spec := "pairAll", inPlace := ["math/bits.Add64", "math/bits.Sub64"], unfollowed := true, recurses := true, named := ["math/bits.divideError", "math/bits.overflowError"], plainKeys := false, apart := false, narrowed := true }
def PairAllUptoSaid : Prop := pairAllUptoRow.holds Tryz.pinned (OpenSpec.upto pairAllSpec)

/-- 'syzygylaw13.PairApart', WHERE WHAT IT READS IS OF BULK AT MOST 1048576: true; the input reads as it did. -/
def pairApartUptoRow : OpenClaim := { program := "ytjanagclahkfdaagreat", sum := "e53702c6120b077be01d217cf56e0789ad4ceb971598aa89a1917e62dc50e7be", func := "syzygy/syzygylaw13.PairApart", spec := "pairApart", inPlace := ["math/bits.Add64", "math/bits.Sub64"], unfollowed := true, recurses := true, named := ["math/bits.divideError", "math/bits.overflowError"], plainKeys := false, apart := false, narrowed := true }
def PairApartUptoSaid : Prop := pairApartUptoRow.holds Tryz.pinned (OpenSpec.upto pairApartSpec)

/-- 'syzygylaw13.PairUseless', WHERE WHAT IT READS IS OF BULK AT MOST 1048576: true; the input reads as it did. -/
def pairUselessUptoRow : OpenClaim := { program := "ytjanagclahkfdaagreat", sum := "e53702c6120b077be01d217cf56e0789ad4ceb971598aa89a1917e62dc50e7be", func := "syzygy/syzygylaw13.PairUseless", spec := "pairUseless", inPlace := ["math/bits.Add64", "math/bits.Sub64"], unfollowed := true, recurses := true, named := ["math/bits.divideError", "math/bits.overflowError"], plainKeys := false, apart := false, narrowed := true }
def PairUselessUptoSaid : Prop := pairUselessUptoRow.holds Tryz.pinned (OpenSpec.upto pairUselessSpec)

/-- 'syzygylaw13.PairChains', WHERE WHAT IT READS IS OF BULK AT MOST 1048576: true; the input reads as it did. -/
def pairChainsUptoRow : OpenClaim := { program := "ytjanagclahkfdaagreat", sum := "e53702c6120b077be01d217cf56e0789ad4ceb971598aa89a1917e62dc50e7be", func := "syzygy/syzygylaw13.PairChains", spec := "pairChains", inPlace := ["math/bits.Add64", "math/bits.Sub64"], unfollowed := true, recurses := true, named := ["math/bits.divideError", "math/bits.overflowError"], plainKeys := false, apart := false, narrowed := true }
def PairChainsUptoSaid : Prop := pairChainsUptoRow.holds Tryz.pinned (OpenSpec.upto pairChainsSpec)

end Rows
end Go.Proofs.YtjanagclahkfdaaGreat
