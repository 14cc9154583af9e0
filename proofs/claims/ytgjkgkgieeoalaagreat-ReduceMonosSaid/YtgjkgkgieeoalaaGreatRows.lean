/-
  No cell of these rows narrows 'for every input' (looked for: loops, veiled, ifaces, maps, wideKeys, modest, calm, conditions, laid).
  DERIVED. THE GIVEN ROWS OF THIS SEAT. 10 by the template 'for every input the law returns true; each argument reads behind the call as it read before'; 0 by the template 'total and deterministic' (their statements: YtgjkgkgieeoalaaGreatTotals.lean).
  GIVEN WITH THE SEED: the statements are not yours to turn. If you find one false, say at which input.
  Laid BY PROGRAM, IN A SANDBOX (cutbox-rows.mjs): the forced cells as the released guide's own fill.sh prints them over the translation 5b01a889cdddeba8… (all of the seat's roots in one cut). By AI agents, Wed Nov 11 2026. No macro, syntax, notation, axiom, sorry.
-/
import Derived.Test.YtgjkgkgieeoalaaGreatChecked
import GoSem.Claim
import GoSem.ClaimJoined
import GoSem.ClaimMapViews
import Derived.JoinedTies
import Derived.KernelRfl
namespace Go.Proofs.YtgjkgkgieeoalaaGreat
/- THE CELL 'sum', in the pinned program and in every row, IS THE sha256 OF THE DUMP (.gsa) THAT YtgjkgkgieeoalaaGreatProg.lean LOADS. Nothing in Lean hashes anything: it is a label: what it is worth is what the hold of that sum in a sandbox is worth. -/
noncomputable def Tryz.pinned : Pinned := { name := "ytgjkgkgieeoalaagreat", sum := "5b01a889cdddeba8180fa61eb8280006664e74f5ce2abd88e80144c28b831194", checked := Tryz.checked }
namespace Rows
def none {H : Type} : Left H := { results := [], args := [] }

/-- 'syzygylaw17.DeltaPuts': WHATEVER THE INPUT: true; the input reads as it did. -/
def deltaPutsSpec : ChangeSpec := { name := "deltaPuts", fn := fun _ => fun
  | [d1, d2] => { results := [.lit (.bool true)], args := [d1, d2] }
  | _ => none }
def deltaPutsRow : OpenClaim := { program := "ytgjkgkgieeoalaagreat", sum := "5b01a889cdddeba8180fa61eb8280006664e74f5ce2abd88e80144c28b831194", func := "syzygy/syzygylaw17.DeltaPuts", spec := "deltaPuts", inPlace := ["math/bits.Add64", "math/bits.Sub64", "internal/abi.NoEscape"], unfollowed := true, recurses := true, named := ["math/bits.divideError", "math/bits.overflowError"], plainKeys := false, apart := false }
def DeltaPutsSaid : Prop := deltaPutsRow.holds Tryz.pinned (OpenSpec.ofChange deltaPutsSpec)

/-- ITS FALSE NEIGHBOUR: 'it returns false'. Refute it at one input. -/
def deltaPutsWrong : ChangeSpec := { name := "deltaPuts", fn := fun _ => fun
  | [d1, d2] => { results := [.lit (.bool false)], args := [d1, d2] }
  | _ => none }
def DeltaPutsWrongFalsely : Prop := deltaPutsRow.holds Tryz.pinned (OpenSpec.ofChange deltaPutsWrong)

/-- 'syzygylaw17.DeltaGets': WHATEVER THE INPUT: true; the input reads as it did. -/
def deltaGetsSpec : ChangeSpec := { name := "deltaGets", fn := fun _ => fun
  | [d1, d2] => { results := [.lit (.bool true)], args := [d1, d2] }
  | _ => none }
def deltaGetsRow : OpenClaim := { program := "ytgjkgkgieeoalaagreat", sum := "5b01a889cdddeba8180fa61eb8280006664e74f5ce2abd88e80144c28b831194", func := "syzygy/syzygylaw17.DeltaGets", spec := "deltaGets", inPlace := ["math/bits.Add64", "math/bits.Sub64", "internal/abi.NoEscape"], unfollowed := true, recurses := true, named := ["math/bits.divideError", "math/bits.overflowError"], plainKeys := false, apart := false }
def DeltaGetsSaid : Prop := deltaGetsRow.holds Tryz.pinned (OpenSpec.ofChange deltaGetsSpec)

/-- ITS FALSE NEIGHBOUR: 'it returns false'. Refute it at one input. -/
def deltaGetsWrong : ChangeSpec := { name := "deltaGets", fn := fun _ => fun
  | [d1, d2] => { results := [.lit (.bool false)], args := [d1, d2] }
  | _ => none }
def DeltaGetsWrongFalsely : Prop := deltaGetsRow.holds Tryz.pinned (OpenSpec.ofChange deltaGetsWrong)

/-- 'syzygylaw17.DeltaBack': WHATEVER THE INPUT: true; the input reads as it did. -/
def deltaBackSpec : ChangeSpec := { name := "deltaBack", fn := fun _ => fun
  | [d1, d2, d3, d4] => { results := [.lit (.bool true)], args := [d1, d2, d3, d4] }
  | _ => none }
def deltaBackRow : OpenClaim := { program := "ytgjkgkgieeoalaagreat", sum := "5b01a889cdddeba8180fa61eb8280006664e74f5ce2abd88e80144c28b831194", func := "syzygy/syzygylaw17.DeltaBack", spec := "deltaBack", inPlace := ["math/bits.Add64", "math/bits.Sub64", "internal/abi.NoEscape"], unfollowed := true, recurses := true, named := ["math/bits.divideError", "math/bits.overflowError"], plainKeys := false, apart := false }
def DeltaBackSaid : Prop := deltaBackRow.holds Tryz.pinned (OpenSpec.ofChange deltaBackSpec)

/-- ITS FALSE NEIGHBOUR: 'it returns false'. Refute it at one input. -/
def deltaBackWrong : ChangeSpec := { name := "deltaBack", fn := fun _ => fun
  | [d1, d2, d3, d4] => { results := [.lit (.bool false)], args := [d1, d2, d3, d4] }
  | _ => none }
def DeltaBackWrongFalsely : Prop := deltaBackRow.holds Tryz.pinned (OpenSpec.ofChange deltaBackWrong)

/-- 'syzygylaw17.DeltaOne': WHATEVER THE INPUT: true; the input reads as it did. -/
def deltaOneSpec : ChangeSpec := { name := "deltaOne", fn := fun _ => fun
  | [d1, d2] => { results := [.lit (.bool true)], args := [d1, d2] }
  | _ => none }
def deltaOneRow : OpenClaim := { program := "ytgjkgkgieeoalaagreat", sum := "5b01a889cdddeba8180fa61eb8280006664e74f5ce2abd88e80144c28b831194", func := "syzygy/syzygylaw17.DeltaOne", spec := "deltaOne", inPlace := ["math/bits.Add64", "math/bits.Sub64", "internal/abi.NoEscape"], unfollowed := true, recurses := true, named := ["math/bits.divideError", "math/bits.overflowError"], plainKeys := false, apart := false }
def DeltaOneSaid : Prop := deltaOneRow.holds Tryz.pinned (OpenSpec.ofChange deltaOneSpec)

/-- ITS FALSE NEIGHBOUR: 'it returns false'. Refute it at one input. -/
def deltaOneWrong : ChangeSpec := { name := "deltaOne", fn := fun _ => fun
  | [d1, d2] => { results := [.lit (.bool false)], args := [d1, d2] }
  | _ => none }
def DeltaOneWrongFalsely : Prop := deltaOneRow.holds Tryz.pinned (OpenSpec.ofChange deltaOneWrong)

/-- 'syzygylaw13.PairApart': WHATEVER THE INPUT: true; the input reads as it did. -/
def pairApartSpec : ChangeSpec := { name := "pairApart", fn := fun _ => fun
  | [d1, d2, d3] => { results := [.lit (.bool true)], args := [d1, d2, d3] }
  | _ => none }
def pairApartRow : OpenClaim := { program := "ytgjkgkgieeoalaagreat", sum := "5b01a889cdddeba8180fa61eb8280006664e74f5ce2abd88e80144c28b831194", func := "syzygy/syzygylaw13.PairApart", spec := "pairApart", inPlace := ["math/bits.Add64", "math/bits.Sub64"], unfollowed := true, recurses := true, named := ["math/bits.divideError", "math/bits.overflowError"], plainKeys := false, apart := false }
def PairApartSaid : Prop := pairApartRow.holds Tryz.pinned (OpenSpec.ofChange pairApartSpec)

/-- ITS FALSE NEIGHBOUR: 'it returns false'. Refute it at one input. -/
def pairApartWrong : ChangeSpec := { name := "pairApart", fn := fun _ => fun
  | [d1, d2, d3] => { results := [.lit (.bool false)], args := [d1, d2, d3] }
  | _ => none }
def PairApartWrongFalsely : Prop := pairApartRow.holds Tryz.pinned (OpenSpec.ofChange pairApartWrong)

/-- 'syzygylaw13.PairChains': WHATEVER THE INPUT: true; the input reads as it did. -/
def pairChainsSpec : ChangeSpec := { name := "pairChains", fn := fun _ => fun
  | [d1, d2, d3] => { results := [.lit (.bool true)], args := [d1, d2, d3] }
  | _ => none }
def pairChainsRow : OpenClaim := { program := "ytgjkgkgieeoalaagreat", sum := "5b01a889cdddeba8180fa61eb8280006664e74f5ce2abd88e80144c28b831194", func := "syzygy/syzygylaw13.PairChains", spec := "pairChains", inPlace := ["math/bits.Add64", "math/bits.Sub64"], unfollowed := true, recurses := true, named := ["math/bits.divideError", "math/bits.overflowError"], plainKeys := false, apart := false }
def PairChainsSaid : Prop := pairChainsRow.holds Tryz.pinned (OpenSpec.ofChange pairChainsSpec)

/-- ITS FALSE NEIGHBOUR: 'it returns false'. Refute it at one input. -/
def pairChainsWrong : ChangeSpec := { name := "pairChains", fn := fun _ => fun
  | [d1, d2, d3] => { results := [.lit (.bool false)], args := [d1, d2, d3] }
  | _ => none }
def PairChainsWrongFalsely : Prop := pairChainsRow.holds Tryz.pinned (OpenSpec.ofChange pairChainsWrong)

/-- 'syzygylaw14.ReduceIs': WHATEVER THE INPUT: true; the input reads as it did. -/
def reduceIsSpec : ChangeSpec := { name := "reduceIs", fn := fun _ => fun
  | [d1, d2] => { results := [.lit (.bool true)], args := [d1, d2] }
  | _ => none }
def reduceIsRow : OpenClaim := { program := "ytgjkgkgieeoalaagreat", sum := "5b01a889cdddeba8180fa61eb8280006664e74f5ce2abd88e80144c28b831194", func := "syzygy/syzygylaw14.ReduceIs", spec := "reduceIs", inPlace := ["math/bits.Add64", "math/bits.Sub64"], unfollowed := true, recurses := true, named := ["math/bits.divideError", "math/bits.overflowError"], plainKeys := false, apart := false }
def ReduceIsSaid : Prop := reduceIsRow.holds Tryz.pinned (OpenSpec.ofChange reduceIsSpec)

/-- ITS FALSE NEIGHBOUR: 'it returns false'. Refute it at one input. -/
def reduceIsWrong : ChangeSpec := { name := "reduceIs", fn := fun _ => fun
  | [d1, d2] => { results := [.lit (.bool false)], args := [d1, d2] }
  | _ => none }
def ReduceIsWrongFalsely : Prop := reduceIsRow.holds Tryz.pinned (OpenSpec.ofChange reduceIsWrong)

/-- 'syzygylaw14.ReduceIn': WHATEVER THE INPUT: true; the input reads as it did. -/
def reduceInSpec : ChangeSpec := { name := "reduceIn", fn := fun _ => fun
  | [d1, d2, d3] => { results := [.lit (.bool true)], args := [d1, d2, d3] }
  | _ => none }
def reduceInRow : OpenClaim := { program := "ytgjkgkgieeoalaagreat", sum := "5b01a889cdddeba8180fa61eb8280006664e74f5ce2abd88e80144c28b831194", func := "syzygy/syzygylaw14.ReduceIn", spec := "reduceIn", inPlace := ["math/bits.Add64", "math/bits.Sub64"], unfollowed := true, recurses := true, named := ["math/bits.divideError", "math/bits.overflowError"], plainKeys := false, apart := false }
def ReduceInSaid : Prop := reduceInRow.holds Tryz.pinned (OpenSpec.ofChange reduceInSpec)

/-- ITS FALSE NEIGHBOUR: 'it returns false'. Refute it at one input. -/
def reduceInWrong : ChangeSpec := { name := "reduceIn", fn := fun _ => fun
  | [d1, d2, d3] => { results := [.lit (.bool false)], args := [d1, d2, d3] }
  | _ => none }
def ReduceInWrongFalsely : Prop := reduceInRow.holds Tryz.pinned (OpenSpec.ofChange reduceInWrong)

/-- 'syzygylaw14.ReduceOne': WHATEVER THE INPUT: true; the input reads as it did. -/
def reduceOneSpec : ChangeSpec := { name := "reduceOne", fn := fun _ => fun
  | [d1, d2] => { results := [.lit (.bool true)], args := [d1, d2] }
  | _ => none }
def reduceOneRow : OpenClaim := { program := "ytgjkgkgieeoalaagreat", sum := "5b01a889cdddeba8180fa61eb8280006664e74f5ce2abd88e80144c28b831194", func := "syzygy/syzygylaw14.ReduceOne", spec := "reduceOne", inPlace := ["math/bits.Add64", "math/bits.Sub64"], unfollowed := true, recurses := true, named := ["math/bits.divideError", "math/bits.overflowError"], plainKeys := false, apart := false }
def ReduceOneSaid : Prop := reduceOneRow.holds Tryz.pinned (OpenSpec.ofChange reduceOneSpec)

/-- ITS FALSE NEIGHBOUR: 'it returns false'. Refute it at one input. -/
def reduceOneWrong : ChangeSpec := { name := "reduceOne", fn := fun _ => fun
  | [d1, d2] => { results := [.lit (.bool false)], args := [d1, d2] }
  | _ => none }
def ReduceOneWrongFalsely : Prop := reduceOneRow.holds Tryz.pinned (OpenSpec.ofChange reduceOneWrong)

/-- 'syzygylaw14.ReduceMonos': WHATEVER THE INPUT: true; the input reads as it did. -/
def reduceMonosSpec : ChangeSpec := { name := "reduceMonos", fn := fun _ => fun
  | [d1, d2] => { results := [.lit (.bool true)], args := [d1, d2] }
  | _ => none }
def reduceMonosRow : OpenClaim := { program := "ytgjkgkgieeoalaagreat", sum := "5b01a889cdddeba8180fa61eb8280006664e74f5ce2abd88e80144c28b831194", func := "syzygy/syzygylaw14.ReduceMonos", spec := "reduceMonos", inPlace := ["math/bits.Add64", "math/bits.Sub64"], unfollowed := true, recurses := true, named := ["math/bits.divideError", "math/bits.overflowError"], plainKeys := false, apart := false }
def ReduceMonosSaid : Prop := reduceMonosRow.holds Tryz.pinned (OpenSpec.ofChange reduceMonosSpec)

/-- ITS FALSE NEIGHBOUR: 'it returns false'. Refute it at one input. -/
def reduceMonosWrong : ChangeSpec := { name := "reduceMonos", fn := fun _ => fun
  | [d1, d2] => { results := [.lit (.bool false)], args := [d1, d2] }
  | _ => none }
def ReduceMonosWrongFalsely : Prop := reduceMonosRow.holds Tryz.pinned (OpenSpec.ofChange reduceMonosWrong)

/- THE SECOND FORM. 'bulk': how many values and letters a reading holds, each counted each time it is reached (what is shared counts as often as it is met; a slice's spare places count too). A statement '..UptoSaid' is the law's where the arguments, and the package variables that the reading takes, are together of bulk at most 1048576: NARROWER than '..Said'. Prove '..Said' where nothing that the law and all that it calls make is longer than what came in: it says more and counts as full. Else prove '..UptoSaid'. A law counts once. -/
mutual
def uptoBulk {H : Type} : DataW H → Nat
  | .lit (.string bytes) => bytes.length + 1
  | .lit _ => 1
  | .nil => 1
  | .ptr d => uptoBulk d + 1
  | .slice elems spare => uptoBulkAll elems + uptoBulkAll spare + 1
  | .agg parts => uptoBulkAll parts + 1
  | .iface _ d => uptoBulk d + 1
  | .map entries => uptoBulkEntries entries + 1
  | .held _ => 1
def uptoBulkAll {H : Type} : List (DataW H) → Nat
  | [] => 0
  | d :: r => uptoBulk d + uptoBulkAll r
def uptoBulkEntries {H : Type} : List (Lit × DataW H) → Nat
  | [] => 0
  | x :: r => uptoBulkEntry x + uptoBulkEntries r
def uptoBulkEntry {H : Type} : Lit × DataW H → Nat
  | (.string bytes, d) => bytes.length + uptoBulk d + 1
  | (_, d) => uptoBulk d + 1
 end
def uptoSmall : (H : Type) → List (DataW H) → Bool := fun _ ds => decide (uptoBulkAll ds ≤ 1048576)
def OpenSpec.upto (s : _root_.Go.ChangeSpec) : _root_.Go.OpenSpec := { _root_.Go.OpenSpec.ofChange s with cond := some uptoSmall }

/-- 'syzygylaw17.DeltaPuts', WHERE WHAT IT READS IS OF BULK AT MOST 1048576: true; the input reads as it did. -/
def deltaPutsUptoRow : OpenClaim := { program := "ytgjkgkgieeoalaagreat", sum := "5b01a889cdddeba8180fa61eb8280006664e74f5ce2abd88e80144c28b831194", func := "syzygy/syzygylaw17.DeltaPuts", spec := "deltaPuts", inPlace := ["math/bits.Add64", "math/bits.Sub64", "internal/abi.NoEscape"], unfollowed := true, recurses := true, named := ["math/bits.divideError", "math/bits.overflowError"], plainKeys := false, apart := false, narrowed := true }
def DeltaPutsUptoSaid : Prop := deltaPutsUptoRow.holds Tryz.pinned (OpenSpec.upto deltaPutsSpec)

/-- 'syzygylaw17.DeltaGets', WHERE WHAT IT READS IS OF BULK AT MOST 1048576: true; the input reads as it did. -/
def deltaGetsUptoRow : OpenClaim := { program := "ytgjkgkgieeoalaagreat", sum := "5b01a889cdddeba8180fa61eb8280006664e74f5ce2abd88e80144c28b831194", func := "syzygy/syzygylaw17.DeltaGets", spec := "deltaGets", inPlace := ["math/bits.Add64", "math/bits.Sub64", "internal/abi.NoEscape"], unfollowed := true, recurses := true, named := ["math/bits.divideError", "math/bits.overflowError"], plainKeys := false, apart := false, narrowed := true }
def DeltaGetsUptoSaid : Prop := deltaGetsUptoRow.holds Tryz.pinned (OpenSpec.upto deltaGetsSpec)

/-- 'syzygylaw17.DeltaBack', WHERE WHAT IT READS IS OF BULK AT MOST 1048576: true; the input reads as it did. -/
def deltaBackUptoRow : OpenClaim := { program := "ytgjkgkgieeoalaagreat", sum := "5b01a889cdddeba8180fa61eb8280006664e74f5ce2abd88e80144c28b831194", func := "syzygy/syzygylaw17.DeltaBack", spec := "deltaBack", inPlace := ["math/bits.Add64", "math/bits.Sub64", "internal/abi.NoEscape"], unfollowed := true, recurses := true, named := ["math/bits.divideError", "math/bits.overflowError"], plainKeys := false, apart := false, narrowed := true }
def DeltaBackUptoSaid : Prop := deltaBackUptoRow.holds Tryz.pinned (OpenSpec.upto deltaBackSpec)

/-- 'syzygylaw17.DeltaOne', WHERE WHAT IT READS IS OF BULK AT MOST 1048576: true; the input reads as it did. -/
def deltaOneUptoRow : OpenClaim := { program := "ytgjkgkgieeoalaagreat", sum := "5b01a889cdddeba8180fa61eb8280006664e74f5ce2abd88e80144c28b831194", func := "syzygy/syzygylaw17.DeltaOne", spec := "deltaOne", inPlace := ["math/bits.Add64", "math/bits.Sub64", "internal/abi.NoEscape"], unfollowed := true, recurses := true, named := ["math/bits.divideError", "math/bits.overflowError"], plainKeys := false, apart := false, narrowed := true }
def DeltaOneUptoSaid : Prop := deltaOneUptoRow.holds Tryz.pinned (OpenSpec.upto deltaOneSpec)

/-- 'syzygylaw13.PairApart', WHERE WHAT IT READS IS OF BULK AT MOST 1048576: true; the input reads as it did. -/
def pairApartUptoRow : OpenClaim := { program := "ytgjkgkgieeoalaagreat", sum := "5b01a889cdddeba8180fa61eb8280006664e74f5ce2abd88e80144c28b831194", func := "syzygy/syzygylaw13.PairApart", spec := "pairApart", inPlace := ["math/bits.Add64", "math/bits.Sub64"], unfollowed := true, recurses := true, named := ["math/bits.divideError", "math/bits.overflowError"], plainKeys := false, apart := false, narrowed := true }
def PairApartUptoSaid : Prop := pairApartUptoRow.holds Tryz.pinned (OpenSpec.upto pairApartSpec)

/-- 'syzygylaw13.PairChains', WHERE WHAT IT READS IS OF BULK AT MOST 1048576: true; the input reads as it did. -/
def pairChainsUptoRow : OpenClaim := { program := "ytgjkgkgieeoalaagreat", sum := "5b01a889cdddeba8180fa61eb8280006664e74f5ce2abd88e80144c28b831194", func := "syzygy/syzygylaw13.PairChains", spec := "pairChains", inPlace := ["math/bits.Add64", "math/bits.Sub64"], unfollowed := true, recurses := true, named := ["math/bits.divideError", "math/bits.overflowError"], plainKeys := false, apart := false, narrowed := true }
def PairChainsUptoSaid : Prop := pairChainsUptoRow.holds Tryz.pinned (OpenSpec.upto pairChainsSpec)

/-- 'syzygylaw14.ReduceIs', WHERE WHAT IT READS IS OF BULK AT MOST 1048576: true; the input reads as it did. -/
def reduceIsUptoRow : OpenClaim := { program := "ytgjkgkgieeoalaagreat", sum := "5b01a889cdddeba8180fa61eb8280006664e74f5ce2abd88e80144c28b831194", func := "syzygy/syzygylaw14.ReduceIs", spec := "reduceIs", inPlace := ["math/bits.Add64", "math/bits.Sub64"], unfollowed := true, recurses := true, named := ["math/bits.divideError", "math/bits.overflowError"], plainKeys := false, apart := false, narrowed := true }
def ReduceIsUptoSaid : Prop := reduceIsUptoRow.holds Tryz.pinned (OpenSpec.upto reduceIsSpec)

/-- 'syzygylaw14.ReduceIn', WHERE WHAT IT READS IS OF BULK AT MOST 1048576: true; the input reads as it did. -/
def reduceInUptoRow : OpenClaim := { program := "ytgjkgkgieeoalaagreat", sum := "5b01a889cdddeba8180fa61eb8280006664e74f5ce2abd88e80144c28b831194", func := "syzygy/syzygylaw14.ReduceIn", spec := "reduceIn", inPlace := ["math/bits.Add64", "math/bits.Sub64"], unfollowed := true, recurses := true, named := ["math/bits.divideError", "math/bits.overflowError"], plainKeys := false, apart := false, narrowed := true }
def ReduceInUptoSaid : Prop := reduceInUptoRow.holds Tryz.pinned (OpenSpec.upto reduceInSpec)

/-- 'syzygylaw14.ReduceOne', WHERE WHAT IT READS IS OF BULK AT MOST 1048576: true; the input reads as it did. -/
def reduceOneUptoRow : OpenClaim := { program := "ytgjkgkgieeoalaagreat", sum := "5b01a889cdddeba8180fa61eb8280006664e74f5ce2abd88e80144c28b831194", func := "syzygy/syzygylaw14.ReduceOne", spec := "reduceOne", inPlace := ["math/bits.Add64", "math/bits.Sub64"], unfollowed := true, recurses := true, named := ["math/bits.divideError", "math/bits.overflowError"], plainKeys := false, apart := false, narrowed := true }
def ReduceOneUptoSaid : Prop := reduceOneUptoRow.holds Tryz.pinned (OpenSpec.upto reduceOneSpec)

/-- 'syzygylaw14.ReduceMonos', WHERE WHAT IT READS IS OF BULK AT MOST 1048576: true; the input reads as it did. -/
def reduceMonosUptoRow : OpenClaim := { program := "ytgjkgkgieeoalaagreat", sum := "5b01a889cdddeba8180fa61eb8280006664e74f5ce2abd88e80144c28b831194", func := "syzygy/syzygylaw14.ReduceMonos", spec := "reduceMonos", inPlace := ["math/bits.Add64", "math/bits.Sub64"], unfollowed := true, recurses := true, named := ["math/bits.divideError", "math/bits.overflowError"], plainKeys := false, apart := false, narrowed := true }
def ReduceMonosUptoSaid : Prop := reduceMonosUptoRow.holds Tryz.pinned (OpenSpec.upto reduceMonosSpec)

end Rows
end Go.Proofs.YtgjkgkgieeoalaaGreat
