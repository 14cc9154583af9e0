/-
  No cell of these rows narrows 'for every input' (looked for: loops, veiled, ifaces, maps, wideKeys, modest, calm, conditions, laid).
  DERIVED. THE GIVEN ROWS OF THIS SEAT. 12 by the template 'for every input the law returns true; each argument reads behind the call as it read before'; 0 by the template 'total and deterministic' (their statements: YtidjbiopneoeeaaGreatTotals.lean).
  GIVEN WITH THE SEED: the statements are not yours to turn. If you find one false, say at which input.
  Laid BY PROGRAM, IN A SANDBOX (cutbox-rows.mjs): the forced cells as the released guide's own fill.sh prints them over the translation 0357c94c8437f491… (all of the seat's roots in one cut). By AI agents, Wed Nov 11 2026. No macro, syntax, notation, axiom, sorry.
-/
import Derived.Test.YtidjbiopneoeeaaGreatChecked
import GoSem.Claim
import GoSem.ClaimJoined
import GoSem.ClaimMapViews
import Derived.JoinedTies
import Derived.KernelRfl
namespace Go.Proofs.YtidjbiopneoeeaaGreat
/- THE CELL 'sum', in the pinned program and in every row, IS THE sha256 OF THE DUMP (.gsa) THAT YtidjbiopneoeeaaGreatProg.lean LOADS. Nothing in Lean hashes anything: it is a label: what it is worth is what the hold of that sum in a sandbox is worth. -/
noncomputable def Tryz.pinned : Pinned := { name := "ytidjbiopneoeeaagreat", sum := "0357c94c8437f49117b45cb372acf212b15a424c5c14eeb12e7647dbd3b149f6", checked := Tryz.checked }
namespace Rows
def none {H : Type} : Left H := { results := [], args := [] }

/-- 'syzygylaw17.DeltaPuts': WHATEVER THE INPUT: true; the input reads as it did. -/
def deltaPutsSpec : ChangeSpec := { name := "deltaPuts", fn := fun _ => fun
  | [d1, d2] => { results := [.lit (.bool true)], args := [d1, d2] }
  | _ => none }
def deltaPutsRow : OpenClaim := { program := "ytidjbiopneoeeaagreat", sum := "0357c94c8437f49117b45cb372acf212b15a424c5c14eeb12e7647dbd3b149f6", func := "syzygy/syzygylaw17.DeltaPuts", spec := "deltaPuts", inPlace := ["math/bits.Add64", "math/bits.Sub64", "internal/abi.NoEscape"], unfollowed := true, recurses := true, named := ["math/bits.divideError", "math/bits.overflowError"], plainKeys := false, apart := false }
def DeltaPutsSaid : Prop := deltaPutsRow.holds Tryz.pinned (OpenSpec.ofChange deltaPutsSpec)

/-- ITS FALSE NEIGHBOUR: 'it returns false'. Refute it at one input. -/
def deltaPutsWrong : ChangeSpec := { name := "deltaPuts", fn := fun _ => fun
  | [d1, d2] => { results := [.lit (.bool false)], args := [d1, d2] }
  | _ => none }
def DeltaPutsWrongFalsely : Prop := deltaPutsRow.holds Tryz.pinned (OpenSpec.ofChange deltaPutsWrong)

/-- 'syzygylaw17.DeltaGets': WHATEVER THE INPUT: true; the input reads as it did. -/
def deltaGetsSpec : ChangeSpec := { name := "deltaGets", fn := fun _ => fun
  | [d1, d2] => { results := [.lit (.bool true)], args := [d1, d2] }
  | _ => none }
def deltaGetsRow : OpenClaim := { program := "ytidjbiopneoeeaagreat", sum := "0357c94c8437f49117b45cb372acf212b15a424c5c14eeb12e7647dbd3b149f6", func := "syzygy/syzygylaw17.DeltaGets", spec := "deltaGets", inPlace := ["math/bits.Add64", "math/bits.Sub64", "internal/abi.NoEscape"], unfollowed := true, recurses := true, named := ["math/bits.divideError", "math/bits.overflowError"], plainKeys := false, apart := false }
def DeltaGetsSaid : Prop := deltaGetsRow.holds Tryz.pinned (OpenSpec.ofChange deltaGetsSpec)

/-- ITS FALSE NEIGHBOUR: 'it returns false'. Refute it at one input. -/
def deltaGetsWrong : ChangeSpec := { name := "deltaGets", fn := fun _ => fun
  | [d1, d2] => { results := [.lit (.bool false)], args := [d1, d2] }
  | _ => none }
def DeltaGetsWrongFalsely : Prop := deltaGetsRow.holds Tryz.pinned (OpenSpec.ofChange deltaGetsWrong)

/-- 'syzygylaw09.PolyOne': WHATEVER THE INPUT: true; the input reads as it did. -/
def polyOneSpec : ChangeSpec := { name := "polyOne", fn := fun _ => fun
  | [d1, d2, d3] => { results := [.lit (.bool true)], args := [d1, d2, d3] }
  | _ => none }
def polyOneRow : OpenClaim := { program := "ytidjbiopneoeeaagreat", sum := "0357c94c8437f49117b45cb372acf212b15a424c5c14eeb12e7647dbd3b149f6", func := "syzygy/syzygylaw09.PolyOne", spec := "polyOne", inPlace := ["math/bits.Add64", "math/bits.Sub64"], unfollowed := true, recurses := true, named := ["math/bits.divideError", "math/bits.overflowError"], plainKeys := false, apart := false }
def PolyOneSaid : Prop := polyOneRow.holds Tryz.pinned (OpenSpec.ofChange polyOneSpec)

/-- ITS FALSE NEIGHBOUR: 'it returns false'. Refute it at one input. -/
def polyOneWrong : ChangeSpec := { name := "polyOne", fn := fun _ => fun
  | [d1, d2, d3] => { results := [.lit (.bool false)], args := [d1, d2, d3] }
  | _ => none }
def PolyOneWrongFalsely : Prop := polyOneRow.holds Tryz.pinned (OpenSpec.ofChange polyOneWrong)

/-- 'syzygylaw17.DeltaBack': WHATEVER THE INPUT: true; the input reads as it did. -/
def deltaBackSpec : ChangeSpec := { name := "deltaBack", fn := fun _ => fun
  | [d1, d2, d3, d4] => { results := [.lit (.bool true)], args := [d1, d2, d3, d4] }
  | _ => none }
def deltaBackRow : OpenClaim := { program := "ytidjbiopneoeeaagreat", sum := "0357c94c8437f49117b45cb372acf212b15a424c5c14eeb12e7647dbd3b149f6", func := "syzygy/syzygylaw17.DeltaBack", spec := "deltaBack", inPlace := ["math/bits.Add64", "math/bits.Sub64", "internal/abi.NoEscape"], unfollowed := true, recurses := true, named := ["math/bits.divideError", "math/bits.overflowError"], plainKeys := false, apart := false }
def DeltaBackSaid : Prop := deltaBackRow.holds Tryz.pinned (OpenSpec.ofChange deltaBackSpec)

/-- ITS FALSE NEIGHBOUR: 'it returns false'. Refute it at one input. -/
def deltaBackWrong : ChangeSpec := { name := "deltaBack", fn := fun _ => fun
  | [d1, d2, d3, d4] => { results := [.lit (.bool false)], args := [d1, d2, d3, d4] }
  | _ => none }
def DeltaBackWrongFalsely : Prop := deltaBackRow.holds Tryz.pinned (OpenSpec.ofChange deltaBackWrong)

/-- 'syzygylaw17.DeltaOne': WHATEVER THE INPUT: true; the input reads as it did. -/
def deltaOneSpec : ChangeSpec := { name := "deltaOne", fn := fun _ => fun
  | [d1, d2] => { results := [.lit (.bool true)], args := [d1, d2] }
  | _ => none }
def deltaOneRow : OpenClaim := { program := "ytidjbiopneoeeaagreat", sum := "0357c94c8437f49117b45cb372acf212b15a424c5c14eeb12e7647dbd3b149f6", func := "syzygy/syzygylaw17.DeltaOne", spec := "deltaOne", inPlace := ["math/bits.Add64", "math/bits.Sub64", "internal/abi.NoEscape"], unfollowed := true, recurses := true, named := ["math/bits.divideError", "math/bits.overflowError"], plainKeys := false, apart := false }
def DeltaOneSaid : Prop := deltaOneRow.holds Tryz.pinned (OpenSpec.ofChange deltaOneSpec)

/-- ITS FALSE NEIGHBOUR: 'it returns false'. Refute it at one input. -/
def deltaOneWrong : ChangeSpec := { name := "deltaOne", fn := fun _ => fun
  | [d1, d2] => { results := [.lit (.bool false)], args := [d1, d2] }
  | _ => none }
def DeltaOneWrongFalsely : Prop := deltaOneRow.holds Tryz.pinned (OpenSpec.ofChange deltaOneWrong)

/-- 'syzygylaw09.PolyMakes': WHATEVER THE INPUT: true; the input reads as it did. -/
def polyMakesSpec : ChangeSpec := { name := "polyMakes", fn := fun _ => fun
  | [d1, d2, d3] => { results := [.lit (.bool true)], args := [d1, d2, d3] }
  | _ => none }
def polyMakesRow : OpenClaim := { program := "ytidjbiopneoeeaagreat", sum := "0357c94c8437f49117b45cb372acf212b15a424c5c14eeb12e7647dbd3b149f6", func := "syzygy/syzygylaw09.PolyMakes", spec := "polyMakes", inPlace := ["math/bits.Add64", "math/bits.Sub64"], unfollowed := true, recurses := true, named := ["math/bits.divideError", "math/bits.overflowError"], plainKeys := false, apart := false }
def PolyMakesSaid : Prop := polyMakesRow.holds Tryz.pinned (OpenSpec.ofChange polyMakesSpec)

/-- ITS FALSE NEIGHBOUR: 'it returns false'. Refute it at one input. -/
def polyMakesWrong : ChangeSpec := { name := "polyMakes", fn := fun _ => fun
  | [d1, d2, d3] => { results := [.lit (.bool false)], args := [d1, d2, d3] }
  | _ => none }
def PolyMakesWrongFalsely : Prop := polyMakesRow.holds Tryz.pinned (OpenSpec.ofChange polyMakesWrong)

/-- 'syzygylaw09.PolyRing': WHATEVER THE INPUT: true; the input reads as it did. -/
def polyRingSpec : ChangeSpec := { name := "polyRing", fn := fun _ => fun
  | [d1, d2] => { results := [.lit (.bool true)], args := [d1, d2] }
  | _ => none }
def polyRingRow : OpenClaim := { program := "ytidjbiopneoeeaagreat", sum := "0357c94c8437f49117b45cb372acf212b15a424c5c14eeb12e7647dbd3b149f6", func := "syzygy/syzygylaw09.PolyRing", spec := "polyRing", inPlace := ["math/bits.Add64", "math/bits.Sub64"], unfollowed := true, recurses := true, named := ["math/bits.divideError", "math/bits.overflowError"], plainKeys := false, apart := false }
def PolyRingSaid : Prop := polyRingRow.holds Tryz.pinned (OpenSpec.ofChange polyRingSpec)

/-- ITS FALSE NEIGHBOUR: 'it returns false'. Refute it at one input. -/
def polyRingWrong : ChangeSpec := { name := "polyRing", fn := fun _ => fun
  | [d1, d2] => { results := [.lit (.bool false)], args := [d1, d2] }
  | _ => none }
def PolyRingWrongFalsely : Prop := polyRingRow.holds Tryz.pinned (OpenSpec.ofChange polyRingWrong)

/-- 'syzygylaw09.PolyLead': WHATEVER THE INPUT: true; the input reads as it did. -/
def polyLeadSpec : ChangeSpec := { name := "polyLead", fn := fun _ => fun
  | [d1, d2] => { results := [.lit (.bool true)], args := [d1, d2] }
  | _ => none }
def polyLeadRow : OpenClaim := { program := "ytidjbiopneoeeaagreat", sum := "0357c94c8437f49117b45cb372acf212b15a424c5c14eeb12e7647dbd3b149f6", func := "syzygy/syzygylaw09.PolyLead", spec := "polyLead", inPlace := ["math/bits.Add64", "math/bits.Sub64"], unfollowed := true, recurses := true, named := ["math/bits.divideError", "math/bits.overflowError"], plainKeys := false, apart := false }
def PolyLeadSaid : Prop := polyLeadRow.holds Tryz.pinned (OpenSpec.ofChange polyLeadSpec)

/-- ITS FALSE NEIGHBOUR: 'it returns false'. Refute it at one input. -/
def polyLeadWrong : ChangeSpec := { name := "polyLead", fn := fun _ => fun
  | [d1, d2] => { results := [.lit (.bool false)], args := [d1, d2] }
  | _ => none }
def PolyLeadWrongFalsely : Prop := polyLeadRow.holds Tryz.pinned (OpenSpec.ofChange polyLeadWrong)

/-- 'syzygylaw09.PolyZero': WHATEVER THE INPUT: true; the input reads as it did. -/
def polyZeroSpec : ChangeSpec := { name := "polyZero", fn := fun _ => fun
  | [d1, d2] => { results := [.lit (.bool true)], args := [d1, d2] }
  | _ => none }
def polyZeroRow : OpenClaim := { program := "ytidjbiopneoeeaagreat", sum := "0357c94c8437f49117b45cb372acf212b15a424c5c14eeb12e7647dbd3b149f6", func := "syzygy/syzygylaw09.PolyZero", spec := "polyZero", inPlace := ["math/bits.Add64", "math/bits.Sub64"], unfollowed := true, recurses := true, named := ["math/bits.divideError", "math/bits.overflowError"], plainKeys := false, apart := false }
def PolyZeroSaid : Prop := polyZeroRow.holds Tryz.pinned (OpenSpec.ofChange polyZeroSpec)

/-- ITS FALSE NEIGHBOUR: 'it returns false'. Refute it at one input. -/
def polyZeroWrong : ChangeSpec := { name := "polyZero", fn := fun _ => fun
  | [d1, d2] => { results := [.lit (.bool false)], args := [d1, d2] }
  | _ => none }
def PolyZeroWrongFalsely : Prop := polyZeroRow.holds Tryz.pinned (OpenSpec.ofChange polyZeroWrong)

/-- 'syzygylaw09.PolyMonic': WHATEVER THE INPUT: true; the input reads as it did. -/
def polyMonicSpec : ChangeSpec := { name := "polyMonic", fn := fun _ => fun
  | [d1, d2] => { results := [.lit (.bool true)], args := [d1, d2] }
  | _ => none }
def polyMonicRow : OpenClaim := { program := "ytidjbiopneoeeaagreat", sum := "0357c94c8437f49117b45cb372acf212b15a424c5c14eeb12e7647dbd3b149f6", func := "syzygy/syzygylaw09.PolyMonic", spec := "polyMonic", inPlace := ["math/bits.Add64", "math/bits.Sub64"], unfollowed := true, recurses := true, named := ["math/bits.divideError", "math/bits.overflowError"], plainKeys := false, apart := false }
def PolyMonicSaid : Prop := polyMonicRow.holds Tryz.pinned (OpenSpec.ofChange polyMonicSpec)

/-- ITS FALSE NEIGHBOUR: 'it returns false'. Refute it at one input. -/
def polyMonicWrong : ChangeSpec := { name := "polyMonic", fn := fun _ => fun
  | [d1, d2] => { results := [.lit (.bool false)], args := [d1, d2] }
  | _ => none }
def PolyMonicWrongFalsely : Prop := polyMonicRow.holds Tryz.pinned (OpenSpec.ofChange polyMonicWrong)

/-- 'syzygylaw09.PolyTells': WHATEVER THE INPUT: true; the input reads as it did. -/
def polyTellsSpec : ChangeSpec := { name := "polyTells", fn := fun _ => fun
  | [d1, d2, d3, d4, d5] => { results := [.lit (.bool true)], args := [d1, d2, d3, d4, d5] }
  | _ => none }
def polyTellsRow : OpenClaim := { program := "ytidjbiopneoeeaagreat", sum := "0357c94c8437f49117b45cb372acf212b15a424c5c14eeb12e7647dbd3b149f6", func := "syzygy/syzygylaw09.PolyTells", spec := "polyTells", inPlace := ["math/bits.Add64", "math/bits.Sub64"], unfollowed := true, recurses := true, named := ["math/bits.divideError", "math/bits.overflowError"], plainKeys := false, apart := false }
def PolyTellsSaid : Prop := polyTellsRow.holds Tryz.pinned (OpenSpec.ofChange polyTellsSpec)

/-- ITS FALSE NEIGHBOUR: 'it returns false'. Refute it at one input. -/
def polyTellsWrong : ChangeSpec := { name := "polyTells", fn := fun _ => fun
  | [d1, d2, d3, d4, d5] => { results := [.lit (.bool false)], args := [d1, d2, d3, d4, d5] }
  | _ => none }
def PolyTellsWrongFalsely : Prop := polyTellsRow.holds Tryz.pinned (OpenSpec.ofChange polyTellsWrong)

/-- 'syzygylaw12.DivideTells': WHATEVER THE INPUT: true; the input reads as it did. -/
def divideTellsSpec : ChangeSpec := { name := "divideTells", fn := fun _ => fun
  | [d1, d2, d3] => { results := [.lit (.bool true)], args := [d1, d2, d3] }
  | _ => none }
def divideTellsRow : OpenClaim := { program := "ytidjbiopneoeeaagreat", sum := "0357c94c8437f49117b45cb372acf212b15a424c5c14eeb12e7647dbd3b149f6", func := "syzygy/syzygylaw12.DivideTells", spec := "divideTells", inPlace := ["math/bits.Add64", "math/bits.Sub64"], unfollowed := true, recurses := true, named := ["math/bits.divideError", "math/bits.overflowError"], plainKeys := false, apart := false }
def DivideTellsSaid : Prop := divideTellsRow.holds Tryz.pinned (OpenSpec.ofChange divideTellsSpec)

/-- ITS FALSE NEIGHBOUR: 'it returns false'. Refute it at one input. -/
def divideTellsWrong : ChangeSpec := { name := "divideTells", fn := fun _ => fun
  | [d1, d2, d3] => { results := [.lit (.bool false)], args := [d1, d2, d3] }
  | _ => none }
def DivideTellsWrongFalsely : Prop := divideTellsRow.holds Tryz.pinned (OpenSpec.ofChange divideTellsWrong)

/- THE SECOND FORM. 'bulk': how many values and letters a reading holds, each counted each time it is reached (what is shared counts as often as it is met; a slice's spare places count too). A statement '..UptoSaid' is the law's where the arguments, and the package variables that the reading takes, are together of bulk at most 1048576: NARROWER than '..Said'. Prove '..Said' where nothing that the law and all that it calls make is longer than what came in: it says more and counts as full. Else prove '..UptoSaid'. A law counts once. -/
mutual
def uptoBulk {H : Type} : DataW H → Nat
  | .lit (.string bytes) => bytes.length + 1
  | .lit _ => 1
  | .nil => 1
  | .ptr d => uptoBulk d + 1
  | .slice elems spare => uptoBulkAll elems + uptoBulkAll spare + 1
  | .agg parts => uptoBulkAll parts + 1
  | .iface _ d => uptoBulk d + 1
  | .map entries => uptoBulkEntries entries + 1
  | .held _ => 1
def uptoBulkAll {H : Type} : List (DataW H) → Nat
  | [] => 0
  | d :: r => uptoBulk d + uptoBulkAll r
def uptoBulkEntries {H : Type} : List (Lit × DataW H) → Nat
  | [] => 0
  | x :: r => uptoBulkEntry x + uptoBulkEntries r
def uptoBulkEntry {H : Type} : Lit × DataW H → Nat
  | (.string bytes, d) => bytes.length + uptoBulk d + 1
  | (_, d) => uptoBulk d + 1
 end
def uptoSmall : (H : Type) → List (DataW H) → Bool := fun _ ds => decide (uptoBulkAll ds ≤ 1048576)
def OpenSpec.upto (s : _root_.Go.ChangeSpec) : _root_.Go.OpenSpec := { _root_.Go.OpenSpec.ofChange s with cond := some uptoSmall }

/-- 'syzygylaw17.DeltaPuts', WHERE WHAT IT READS IS OF BULK AT MOST 1048576: true; the input reads as it did. -/
def deltaPutsUptoRow : OpenClaim := { program := "ytidjbiopneoeeaagreat", sum := "0357c94c8437f49117b45cb372acf212b15a424c5c14eeb12e7647dbd3b149f6", func := "syzygy/syzygylaw17.DeltaPuts", spec := "deltaPuts", inPlace := ["math/bits.Add64", "math/bits.Sub64", "internal/abi.NoEscape"], unfollowed := true, recurses := true, named := ["math/bits.divideError", "math/bits.overflowError"], plainKeys := false, apart := false, narrowed := true }
def DeltaPutsUptoSaid : Prop := deltaPutsUptoRow.holds Tryz.pinned (OpenSpec.upto deltaPutsSpec)

/-- 'syzygylaw17.DeltaGets', WHERE WHAT IT READS IS OF BULK AT MOST 1048576: true; the input reads as it did. -/
def deltaGetsUptoRow : OpenClaim := { program := "ytidjbiopneoeeaagreat", sum := "0357c94c8437f49117b45cb372acf212b15a424c5c14eeb12e7647dbd3b149f6", func := "syzygy/syzygylaw17.DeltaGets", spec := "deltaGets", inPlace := ["math/bits.Add64", "math/bits.Sub64", "internal/abi.NoEscape"], unfollowed := true, recurses := true, named := ["math/bits.divideError", "math/bits.overflowError"], plainKeys := false, apart := false, narrowed := true }
def DeltaGetsUptoSaid : Prop := deltaGetsUptoRow.holds Tryz.pinned (OpenSpec.upto deltaGetsSpec)

/-- 'syzygylaw09.PolyOne', WHERE WHAT IT READS IS OF BULK AT MOST 1048576: true; the input reads as it did. -/
def polyOneUptoRow : OpenClaim := { program := "ytidjbiopneoeeaagreat", sum := "0357c94c8437f49117b45cb372acf212b15a424c5c14eeb12e7647dbd3b149f6", func := "syzygy/syzygylaw09.PolyOne", spec := "polyOne", inPlace := ["math/bits.Add64", "math/bits.Sub64"], unfollowed := true, recurses := true, named := ["math/bits.divideError", "math/bits.overflowError"], plainKeys := false, apart := false, narrowed := true }
def PolyOneUptoSaid : Prop := polyOneUptoRow.holds Tryz.pinned (OpenSpec.upto polyOneSpec)

/-- 'syzygylaw17.DeltaBack', WHERE WHAT IT READS IS OF BULK AT MOST 1048576: true; the input reads as it did. -/
def deltaBackUptoRow : OpenClaim := { program := "ytidjbiopneoeeaagreat", sum := "0357c94c8437f49117b45cb372acf212b15a424c5c14eeb12e7647dbd3b149f6", func := "syzygy/syzygylaw17.DeltaBack", spec := "deltaBack", inPlace := ["math/bits.Add64", "math/bits.Sub64", "internal/abi.NoEscape"], unfollowed := true, recurses := true, named := ["math/bits.divideError", "math/bits.overflowError"], plainKeys := false, apart := false, narrowed := true }
def DeltaBackUptoSaid : Prop := deltaBackUptoRow.holds Tryz.pinned (OpenSpec.upto deltaBackSpec)

/-- 'syzygylaw17.DeltaOne', WHERE WHAT IT READS IS OF BULK AT MOST 1048576: true; the input reads as it did. -/
def deltaOneUptoRow : OpenClaim := { program := "ytidjbiopneoeeaagreat", sum := "0357c94c8437f49117b45cb372acf212b15a424c5c14eeb12e7647dbd3b149f6", func := "syzygy/syzygylaw17.DeltaOne", spec := "deltaOne", inPlace := ["math/bits.Add64", "math/bits.Sub64", "internal/abi.NoEscape"], unfollowed := true, recurses := true, named := ["math/bits.divideError", "math/bits.overflowError"], plainKeys := false, apart := false, narrowed := true }
def DeltaOneUptoSaid : Prop := deltaOneUptoRow.holds Tryz.pinned (OpenSpec.upto deltaOneSpec)

/-- 'syzygylaw09.PolyMakes', WHERE WHAT IT READS IS OF BULK AT MOST 1048576: true; the input reads as it did. -/
def polyMakesUptoRow : OpenClaim := { program := "ytidjbiopneoeeaagreat", sum := "0357c94c8437f49117b45cb372acf212b15a424c5c14eeb12e7647dbd3b149f6", func := "syzygy/syzygylaw09.PolyMakes", spec := "polyMakes", inPlace := ["math/bits.Add64", "math/bits.Sub64"], unfollowed := true, recurses := true, named := ["math/bits.divideError", "math/bits.overflowError"], plainKeys := false, apart := false, narrowed := true }
def PolyMakesUptoSaid : Prop := polyMakesUptoRow.holds Tryz.pinned (OpenSpec.upto polyMakesSpec)

/-- 'syzygylaw09.PolyRing', WHERE WHAT IT READS IS OF BULK AT MOST 1048576: true; the input reads as it did. -/
def polyRingUptoRow : OpenClaim := { program := "ytidjbiopneoeeaagreat", sum := "0357c94c8437f49117b45cb372acf212b15a424c5c14eeb12e7647dbd3b149f6", func := "syzygy/syzygylaw09.PolyRing", spec := "polyRing", inPlace := ["math/bits.Add64", "math/bits.Sub64"], unfollowed := true, recurses := true, named := ["math/bits.divideError", "math/bits.overflowError"], plainKeys := false, apart := false, narrowed := true }
def PolyRingUptoSaid : Prop := polyRingUptoRow.holds Tryz.pinned (OpenSpec.upto polyRingSpec)

/-- 'syzygylaw09.PolyLead', WHERE WHAT IT READS IS OF BULK AT MOST 1048576: true; the input reads as it did. -/
def polyLeadUptoRow : OpenClaim := { program := "ytidjbiopneoeeaagreat", sum := "0357c94c8437f49117b45cb372acf212b15a424c5c14eeb12e7647dbd3b149f6", func := "syzygy/syzygylaw09.PolyLead", spec := "polyLead", inPlace := ["math/bits.Add64", "math/bits.Sub64"], unfollowed := true, recurses := true, named := ["math/bits.divideError", "math/bits.overflowError"], plainKeys := false, apart := false, narrowed := true }
def PolyLeadUptoSaid : Prop := polyLeadUptoRow.holds Tryz.pinned (OpenSpec.upto polyLeadSpec)

/-- 'syzygylaw09.PolyZero', WHERE WHAT IT READS IS OF BULK AT MOST 1048576: true; the input reads as it did. -/
def polyZeroUptoRow : OpenClaim := { program := "ytidjbiopneoeeaagreat", sum := "0357c94c8437f49117b45cb372acf212b15a424c5c14eeb12e7647dbd3b149f6", func := "syzygy/syzygylaw09.PolyZero", spec := "polyZero", inPlace := ["math/bits.Add64", "math/bits.Sub64"], unfollowed := true, recurses := true, named := ["math/bits.divideError", "math/bits.overflowError"], plainKeys := false, apart := false, narrowed := true }
def PolyZeroUptoSaid : Prop := polyZeroUptoRow.holds Tryz.pinned (OpenSpec.upto polyZeroSpec)

/-- 'syzygylaw09.PolyMonic', WHERE WHAT IT READS IS OF BULK AT MOST 1048576: true; the input reads as it did. -/
def polyMonicUptoRow : OpenClaim := { program := "ytidjbiopneoeeaagreat", sum := "0357c94c8437f49117b45cb372acf212b15a424c5c14eeb12e7647dbd3b149f6", func := "syzygy/syzygylaw09.PolyMonic", spec := "polyMonic", inPlace := ["math/bits.Add64", "math/bits.Sub64"], unfollowed := true, recurses := true, named := ["math/bits.divideError", "math/bits.overflowError"], plainKeys := false, apart := false, narrowed := true }
def PolyMonicUptoSaid : Prop := polyMonicUptoRow.holds Tryz.pinned (OpenSpec.upto polyMonicSpec)

/-- 'syzygylaw09.PolyTells', WHERE WHAT IT READS IS OF BULK AT MOST 1048576: true; the input reads as it did. -/
def polyTellsUptoRow : OpenClaim := { program := "ytidjbiopneoeeaagreat", sum := "0357c94c8437f49117b45cb372acf212b15a424c5c14eeb12e7647dbd3b149f6", func := "syzygy/syzygylaw09.PolyTells", spec := "polyTells", inPlace := ["math/bits.Add64", "math/bits.Sub64"], unfollowed := true, recurses := true, named := ["math/bits.divideError", "math/bits.overflowError"], plainKeys := false, apart := false, narrowed := true }
def PolyTellsUptoSaid : Prop := polyTellsUptoRow.holds Tryz.pinned (OpenSpec.upto polyTellsSpec)

/-- 'syzygylaw12.DivideTells', WHERE WHAT IT READS IS OF BULK AT MOST 1048576: true; the input reads as it did. -/
def divideTellsUptoRow : OpenClaim := { program := "ytidjbiopneoeeaagreat", sum := "0357c94c8437f49117b45cb372acf212b15a424c5c14eeb12e7647dbd3b149f6", func := "syzygy/syzygylaw12.DivideTells", spec := "divideTells", inPlace := ["math/bits.Add64", "math/bits.Sub64"], unfollowed := true, recurses := true, named := ["math/bits.divideError", "math/bits.overflowError"], plainKeys := false, apart := false, narrowed := true }
def DivideTellsUptoSaid : Prop := divideTellsUptoRow.holds Tryz.pinned (OpenSpec.upto divideTellsSpec)

end Rows
end Go.Proofs.YtidjbiopneoeeaaGreat
