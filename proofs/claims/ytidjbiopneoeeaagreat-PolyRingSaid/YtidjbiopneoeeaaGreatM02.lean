/- Parts of the proof, joined: what each says stands at its head. -/
import Derived.Test.YtidjbiopneoeeaaGreatM01
import Derived.Shelf.Strings.Builder1
import Derived.Shelf.Small.Bits
import Derived.Shelf.Small.Wraps
import Derived.Shelf.Strconv.Itoa0
import Derived.Shelf.Bits.Mul64
import Derived.Shelf.Slices.Reverse
import Derived.Ground.Names2Prog
import Derived.Shelf.Slices.SearchI
import Derived.Shelf.Slices.Cells
import Derived.Ground.SlgnProg
import Derived.Shelf.SlicesE.Clone
import Derived.Test.YtidjbiopneoeeaaGreatProg
set_option linter.unusedVariables false
set_option linter.unusedSimpArgs false
/-
  DERIVED: THE SHELF's CONTRACTS AT THIS DUMP, IN PLAIN WORDS (tools/lay-plain.mjs out of 'TryzShelf.lean', which tools/lay-shelf.mjs wrote): THE SAME DECLARATIONS UNDER THE SAME NAMES: 'import', 'namespace', 'open', 'def', 'theorem' AND NOTHING ELSE: no command of the shelf's: FOR A HAND-IN. Each laying: the table of numbers ('.._ren') and one theorem, a field a fact of the dump's own or the kernel's comparison; each contract: ONE APPLICATION.
-/
namespace Go.Proofs
open Go.Shelf
def Tryz.lays169_ren : Go.Shelf.Ren := ⟨fun | 169 => 187 | n => n, fun | 70 => 211 | 9 => 9 | 0 => 0 | 72 => 213 | 37 => 58 | 127 => 271 | 3 => 3 | 5 => 5 | n => n, fun | n => n⟩
theorem Tryz.lays169 : Go.Proofs.Lays.n169 Tryz.prog Tryz.lays169_ren := {
  mixed := by kernel_rfl
  f169 := Tryz.func187.trans (congrArg some (by kernel_rfl))
  t0 := Tryz.underlying0
  a0 := Tryz.isAgg0
  z0 := Tryz.sizeOf0
  v0 := Tryz.zeroValue0
  t3 := Tryz.underlying3
  a3 := Tryz.isAgg3
  z3 := Tryz.sizeOf3
  v3 := Tryz.zeroValue3
  t9 := Tryz.underlying9
  a9 := Tryz.isAgg9
  z9 := Tryz.sizeOf9
  v9 := Tryz.zeroValue9
  t37 := Tryz.underlying58
  a37 := Tryz.isAgg58
  z37 := Tryz.sizeOf58
  v37 := Tryz.zeroValue58
  t70 := Tryz.underlying211
  a70 := Tryz.isAgg211
  z70 := Tryz.sizeOf211
  v70 := Tryz.zeroValue211
  t72 := Tryz.underlying213
  a72 := Tryz.isAgg213
  z72 := Tryz.sizeOf213
  v72 := Tryz.zeroValue213
  t127 := Tryz.underlying271
  a127 := Tryz.isAgg271
  z127 := Tryz.sizeOf271
  v127 := Tryz.zeroValue271 }
theorem Tryz.Builder_Extra_169 : Builder.Extra Tryz.prog Tryz.lays169_ren := {
  sizeBuilder := by kernel_rfl
  liesBuilder := by kernel_rfl
  t5 := Tryz.underlying5
  a5 := Tryz.isAgg5
  z5 := Tryz.sizeOf5
  v5 := Tryz.zeroValue5
  infoByte := by kernel_rfl
  cellsByte := by kernel_rfl
  sizeByte := by kernel_rfl
  neB5 := by decide }
open Go.RowKit in
/-- (*strings.Builder).String: "String returns the accumulated string.": OF A BUILDER THAT HOLDS AT LEAST ONE BYTE. ✋ THE MODEL FREEZES THOSE BYTES IN THE BUFFER (unsafe.String): a later write INTO them ends the model's run without an answer; a later append BEHIND them goes on. The statement's order of evaluation is drawn: one draw. (LAID: no walk: one application.) -/
theorem Tryz.Builder_String (B b : Nat) (l : List UInt8) (w : World) (h : Lib.IsBuilder 213 5 B b (Lib.byteCells l) w) (h0 : l ≠ []) :
    Calls Tryz.prog 187 #[.pointer (some ⟨b, 0, none⟩)] w fun e w' => e = .returned (.string ⟨l.toArray⟩) ∧ Below B w w' := Any.Builder_String Tryz.lays169 Tryz.Builder_Extra_169 B b l w h h0
open Go.RowKit in
/-- (*strings.Builder).String OF A BUILDER THAT HOLDS NO BYTE: the empty string. (Its buffer is nil, or a row of which it has taken nothing yet; where that row has NO capacity the model lays one new block for unsafe.SliceData's 'some address'.) One draw. (LAID: no walk: one application.) -/
theorem Tryz.Builder_String_empty (B b : Nat) (w : World) (h : Lib.IsBuilder 213 5 B b [] w) (hBw : B ≤ w.heap.size) :
    Calls Tryz.prog 187 #[.pointer (some ⟨b, 0, none⟩)] w fun e w' => e = .returned (.string ⟨#[]⟩) ∧ Below B w w' := Any.Builder_String_empty Tryz.lays169 Tryz.Builder_Extra_169 B b w h hBw
open Go.RowKit in
/-- (*strings.Builder).String: "String returns the accumulated string.": WHATEVER THE BUILDER HOLDS. (LAID: no walk: one application.) -/
theorem Tryz.Builder_String_any (B b : Nat) (l : List UInt8) (w : World) (h : Lib.IsBuilder 213 5 B b (Lib.byteCells l) w) (hBw : B ≤ w.heap.size) :
    Calls Tryz.prog 187 #[.pointer (some ⟨b, 0, none⟩)] w fun e w' => e = .returned (.string ⟨l.toArray⟩) ∧ Below B w w' := Any.Builder_String_any Tryz.lays169 Tryz.Builder_Extra_169 B b l w h hBw
def Tryz.lays128_ren : Go.Shelf.Ren := ⟨fun | 128 => 227 | n => n, fun | 51 => 256 | 3 => 3 | 4 => 4 | 46 => 192 | 5 => 5 | 9 => 9 | n => n, fun | n => n⟩
theorem Tryz.lays128 : Go.Proofs.Lays.n128 Tryz.prog Tryz.lays128_ren := {
  mixed := by kernel_rfl
  f128 := Tryz.func227.trans (congrArg some (by kernel_rfl))
  t3 := Tryz.underlying3
  a3 := Tryz.isAgg3
  z3 := Tryz.sizeOf3
  v3 := Tryz.zeroValue3
  t4 := Tryz.underlying4
  a4 := Tryz.isAgg4
  z4 := Tryz.sizeOf4
  v4 := Tryz.zeroValue4
  t5 := Tryz.underlying5
  a5 := Tryz.isAgg5
  z5 := Tryz.sizeOf5
  v5 := Tryz.zeroValue5
  t9 := Tryz.underlying9
  a9 := Tryz.isAgg9
  z9 := Tryz.sizeOf9
  v9 := Tryz.zeroValue9
  t46 := Tryz.underlying192
  a46 := Tryz.isAgg192
  z46 := Tryz.sizeOf192
  v46 := Tryz.zeroValue192
  t51 := Tryz.underlying256
  a51 := Tryz.isAgg256
  z51 := Tryz.sizeOf256
  v51 := Tryz.zeroValue256 }
/-- bits.Len32: "Len32 returns the minimum number of bits required to represent x; the result is 0 for x == 0.": IT RETURNS 'Lib.bitLen x'; the world is as it was. ('h0', 'h1': x is a uint32.) (LAID: no walk: one application.) -/
theorem Tryz.bits_Len32 (x : Int) (w : World) (h0 : 0 ≤ x) (h1 : x ≤ 4294967295) :
    Calls Tryz.prog 227 #[.int .u32 x] w fun e w' => e = .returned (.int .i64 (Lib.bitLen x.toNat)) ∧ w' = w := Any.bits_Len32 Tryz.lays128 x w h0 h1
def Tryz.lays125_ren : Go.Shelf.Ren := ⟨fun | 125 => 157 | 128 => 227 | 129 => 131 | n => n, fun | 46 => 192 | 3 => 3 | 51 => 256 | 53 => 106 | 4 => 4 | 5 => 5 | 9 => 9 | n => n, fun | n => n⟩
theorem Tryz.lays125 : Go.Proofs.Lays.n125 Tryz.prog Tryz.lays125_ren := {
  mixed := by kernel_rfl
  f125 := Tryz.func157.trans (congrArg some (by kernel_rfl))
  f128 := Tryz.func227.trans (congrArg some (by kernel_rfl))
  f129 := Tryz.func131.trans (congrArg some (by kernel_rfl))
  t3 := Tryz.underlying3
  a3 := Tryz.isAgg3
  z3 := Tryz.sizeOf3
  v3 := Tryz.zeroValue3
  t4 := Tryz.underlying4
  a4 := Tryz.isAgg4
  z4 := Tryz.sizeOf4
  v4 := Tryz.zeroValue4
  t5 := Tryz.underlying5
  a5 := Tryz.isAgg5
  z5 := Tryz.sizeOf5
  v5 := Tryz.zeroValue5
  t9 := Tryz.underlying9
  a9 := Tryz.isAgg9
  z9 := Tryz.sizeOf9
  v9 := Tryz.zeroValue9
  t46 := Tryz.underlying192
  a46 := Tryz.isAgg192
  z46 := Tryz.sizeOf192
  v46 := Tryz.zeroValue192
  t51 := Tryz.underlying256
  a51 := Tryz.isAgg256
  z51 := Tryz.sizeOf256
  v51 := Tryz.zeroValue256
  t53 := Tryz.underlying106
  a53 := Tryz.isAgg106
  z53 := Tryz.sizeOf106
  v53 := Tryz.zeroValue106 }
/-- bits.Len: "Len returns the minimum number of bits required to represent x; the result is 0 for x == 0.": IT RETURNS 'Lib.bitLen x'; the world is as it was. (A uint has 64 bits in the model.) ITS CALLEE bits.Len64 IS MET BY ITS OWN CONTRACT OFF THE SHELF (lay that first). (LAID: no walk: one application.) -/
theorem Tryz.bits_Len (x : Int) (w : World) (h0 : 0 ≤ x) (h1 : x ≤ 18446744073709551615) :
    Calls Tryz.prog 157 #[.int .u64 x] w fun e w' => e = .returned (.int .i64 (Lib.bitLen x.toNat)) ∧ w' = w := Any.bits_Len Tryz.lays125 x w h0 h1
def Tryz.lays134_ren : Go.Shelf.Ren := ⟨fun | 134 => 252 | 129 => 131 | n => n, fun | 53 => 106 | 3 => 3 | 4 => 4 | 46 => 192 | 5 => 5 | 9 => 9 | n => n, fun | n => n⟩
theorem Tryz.lays134 : Go.Proofs.Lays.n134 Tryz.prog Tryz.lays134_ren := {
  mixed := by kernel_rfl
  f129 := Tryz.func131.trans (congrArg some (by kernel_rfl))
  f134 := Tryz.func252.trans (congrArg some (by kernel_rfl))
  t3 := Tryz.underlying3
  a3 := Tryz.isAgg3
  z3 := Tryz.sizeOf3
  v3 := Tryz.zeroValue3
  t4 := Tryz.underlying4
  a4 := Tryz.isAgg4
  z4 := Tryz.sizeOf4
  v4 := Tryz.zeroValue4
  t5 := Tryz.underlying5
  a5 := Tryz.isAgg5
  z5 := Tryz.sizeOf5
  v5 := Tryz.zeroValue5
  t9 := Tryz.underlying9
  a9 := Tryz.isAgg9
  z9 := Tryz.sizeOf9
  v9 := Tryz.zeroValue9
  t46 := Tryz.underlying192
  a46 := Tryz.isAgg192
  z46 := Tryz.sizeOf192
  v46 := Tryz.zeroValue192
  t53 := Tryz.underlying106
  a53 := Tryz.isAgg106
  z53 := Tryz.sizeOf106
  v53 := Tryz.zeroValue106 }
/-- bits.LeadingZeros64: "LeadingZeros64 returns the number of leading zero bits in x; the result is 64 for x == 0.": IT RETURNS '64 - Lib.bitLen x'; the world is as it was. ITS CALLEE bits.Len64 IS MET BY ITS OWN CONTRACT OFF THE SHELF (lay that first): entered in place it sends the kernel out of memory. (LAID: no walk: one application.) -/
theorem Tryz.bits_LeadingZeros64 (x : Int) (w : World) (h0 : 0 ≤ x) (h1 : x ≤ 18446744073709551615) :
    Calls Tryz.prog 252 #[.int .u64 x] w fun e w' => e = .returned (.int .i64 (64 - (Lib.bitLen x.toNat : Int))) ∧ w' = w := Any.bits_LeadingZeros64 Tryz.lays134 x w h0 h1
def Tryz.lays215_ren : Go.Shelf.Ren := ⟨fun | 215 => 228 | n => n, fun | 3 => 3 | 4 => 4 | n => n, fun | n => n⟩
theorem Tryz.lays215 : Go.Proofs.Lays.n215 Tryz.prog Tryz.lays215_ren := {
  mixed := by kernel_rfl
  f215 := Tryz.func228.trans (congrArg some (by kernel_rfl))
  t3 := Tryz.underlying3
  a3 := Tryz.isAgg3
  z3 := Tryz.sizeOf3
  v3 := Tryz.zeroValue3
  t4 := Tryz.underlying4
  a4 := Tryz.isAgg4
  z4 := Tryz.sizeOf4
  v4 := Tryz.zeroValue4 }
open Go.RowKit in
/-- cmp.isNaN at int: 'x != x': false. (LAID: no walk: one application.) -/
theorem Tryz.cmp_isNaN_int (x : Int) (w : World) :
    Calls Tryz.prog 228 #[.int .i64 x] w fun e w' => e = .returned (.bool false) ∧ w' = w := Any.cmp_isNaN_int Tryz.lays215 x w
def Tryz.lays122_ren : Go.Shelf.Ren := ⟨fun | 122 => 163 | 215 => 228 | n => n, fun | 3 => 3 | 4 => 4 | n => n, fun | n => n⟩
theorem Tryz.lays122 : Go.Proofs.Lays.n122 Tryz.prog Tryz.lays122_ren := {
  mixed := by kernel_rfl
  f122 := Tryz.func163.trans (congrArg some (by kernel_rfl))
  f215 := Tryz.func228.trans (congrArg some (by kernel_rfl))
  t3 := Tryz.underlying3
  a3 := Tryz.isAgg3
  z3 := Tryz.sizeOf3
  v3 := Tryz.zeroValue3
  t4 := Tryz.underlying4
  a4 := Tryz.isAgg4
  z4 := Tryz.sizeOf4
  v4 := Tryz.zeroValue4 }
open Go.RowKit in
/-- cmp.Compare at int: "Compare returns -1 if x is less than y, 0 if x equals y, +1 if x is greater than y.": IT RETURNS 'Lib.compareInt x y'; the world is as it was. (LAID: no walk: one application.) -/
theorem Tryz.cmp_Compare_int (x y : Int) (w : World) :
    Calls Tryz.prog 163 #[.int .i64 x, .int .i64 y] w fun e w' => e = .returned (.int .i64 (Lib.compareInt x y)) ∧ w' = w := Any.cmp_Compare_int Tryz.lays122 x y w
def Tryz.lays129_ren : Go.Shelf.Ren := ⟨fun | 129 => 131 | n => n, fun | 53 => 106 | 3 => 3 | 4 => 4 | 46 => 192 | 5 => 5 | 9 => 9 | n => n, fun | n => n⟩
theorem Tryz.lays129 : Go.Proofs.Lays.n129 Tryz.prog Tryz.lays129_ren := {
  mixed := by kernel_rfl
  f129 := Tryz.func131.trans (congrArg some (by kernel_rfl))
  t3 := Tryz.underlying3
  a3 := Tryz.isAgg3
  z3 := Tryz.sizeOf3
  v3 := Tryz.zeroValue3
  t4 := Tryz.underlying4
  a4 := Tryz.isAgg4
  z4 := Tryz.sizeOf4
  v4 := Tryz.zeroValue4
  t5 := Tryz.underlying5
  a5 := Tryz.isAgg5
  z5 := Tryz.sizeOf5
  v5 := Tryz.zeroValue5
  t9 := Tryz.underlying9
  a9 := Tryz.isAgg9
  z9 := Tryz.sizeOf9
  v9 := Tryz.zeroValue9
  t46 := Tryz.underlying192
  a46 := Tryz.isAgg192
  z46 := Tryz.sizeOf192
  v46 := Tryz.zeroValue192
  t53 := Tryz.underlying106
  a53 := Tryz.isAgg106
  z53 := Tryz.sizeOf106
  v53 := Tryz.zeroValue106 }
/-- bits.Len64: "Len64 returns the minimum number of bits required to represent x; the result is 0 for x == 0.": IT RETURNS 'Lib.bitLen x'; the world is as it was. ('h0', 'h1': x is a uint64.) (LAID: no walk: one application.) -/
theorem Tryz.bits_Len64 (x : Int) (w : World) (h0 : 0 ≤ x) (h1 : x ≤ 18446744073709551615) :
    Calls Tryz.prog 131 #[.int .u64 x] w fun e w' => e = .returned (.int .i64 (Lib.bitLen x.toNat)) ∧ w' = w := Any.bits_Len64 Tryz.lays129 x w h0 h1
def Tryz.lays264_ren : Go.Shelf.Ren := ⟨fun | 264 => 213 | n => n, fun | 53 => 106 | 46 => 192 | n => n, fun | n => n⟩
theorem Tryz.lays264 : Go.Proofs.Lays.n264 Tryz.prog Tryz.lays264_ren := {
  mixed := by kernel_rfl
  f264 := Tryz.func213.trans (congrArg some (by kernel_rfl))
  t46 := Tryz.underlying192
  a46 := Tryz.isAgg192
  z46 := Tryz.sizeOf192
  v46 := Tryz.zeroValue192
  t53 := Tryz.underlying106
  a53 := Tryz.isAgg106
  z53 := Tryz.sizeOf106
  v53 := Tryz.zeroValue106 }
open Go.RowKit Go.Lib in
theorem Tryz.bits_Mul64 (x y : Nat) (hx : x < 18446744073709551616) (hy : y < 18446744073709551616) (w : World) :
    Calls Tryz.prog 213 #[.int .u64 x, .int .u64 y] w fun e w' => e = .returned (.tuple #[.int .u64 ((x * y / 18446744073709551616 : Nat) : Int), .int .u64 ((x * y % 18446744073709551616 : Nat) : Int)]) ∧ w' = w := Any.bits_Mul64 Tryz.lays264 x y hx hy w
def Tryz.lays112_ren : Go.Shelf.Ren := ⟨fun | 112 => 166 | n => n, fun | 28 => 167 | 3 => 3 | 4 => 4 | 0 => 0 | n => n, fun | n => n⟩
theorem Tryz.lays112 : Go.Proofs.Lays.n112 Tryz.prog Tryz.lays112_ren := {
  mixed := by kernel_rfl
  f112 := Tryz.func166.trans (congrArg some (by kernel_rfl))
  t0 := Tryz.underlying0
  a0 := Tryz.isAgg0
  z0 := Tryz.sizeOf0
  v0 := Tryz.zeroValue0
  t3 := Tryz.underlying3
  a3 := Tryz.isAgg3
  z3 := Tryz.sizeOf3
  v3 := Tryz.zeroValue3
  t4 := Tryz.underlying4
  a4 := Tryz.isAgg4
  z4 := Tryz.sizeOf4
  v4 := Tryz.zeroValue4
  t28 := Tryz.underlying167
  a28 := Tryz.isAgg167
  z28 := Tryz.sizeOf167
  v28 := Tryz.zeroValue167 }
open Go.RowKit Go.Lib Go.Sort in
/-- slices.Reverse at []int, over an array: Go's loop from the two ends inward is walked; it makes 'Sort.reverseLoop 0 (len - 1)', which is 'Array.reverse' (Derived/Lib/SlicesMore.lean). (LAID: no walk: one application.) -/
theorem Tryz.slices_Reverse_int_arr (blk off cap : Nat) (d : Array Int) (w : World) (hH : Holds encI w blk off d) (hsz : d.size ≤ 9223372036854775807) :
    Calls Tryz.prog 166 #[.slice (some ⟨blk, off, none⟩) d.size cap] w fun e w' => e = .returned (.tuple #[]) ∧ ∃ n, w' = putRow encI (Sort.ahead w n) blk off d.reverse := Any.slices_Reverse_int_arr Tryz.lays112 blk off cap d w hH hsz
open Go.RowKit Go.Lib Go.Sort in
/-- slices.Reverse at []int: "Reverse reverses the elements of the slice in place.": THE SLICE's CELLS HOLD 'zs.reverse' BEHIND THE CALL; all else is as it was, but for the count of draws (the exchange 's[i], s[j] = s[j], s[i]' draws its order, once a round). IN THE WORDS OF slices.Sort's CONTRACT: 'Holds': the cells hold zs and none is frozen; 'putRow': the world with those cells holding another array. A slice of length 0 that is not nil is among them ('zs = []'); nil: '.._nil'. (LAID: no walk: one application.) -/
theorem Tryz.slices_Reverse_int (blk off cap : Nat) (zs : List Int) (w : World) (hH : Holds (Value.int .i64) w blk off zs.toArray) (hsz : zs.length ≤ 9223372036854775807) :
    Calls Tryz.prog 166 #[.slice (some ⟨blk, off, none⟩) zs.length cap] w fun e w' => e = .returned (.tuple #[]) ∧ ∃ n, w' = putRow (Value.int .i64) (Sort.ahead w n) blk off zs.reverse.toArray := Any.slices_Reverse_int Tryz.lays112 blk off cap zs w hH hsz
open Go.RowKit Go.Lib Go.Sort in
/-- The same at a slice of length 0, a nil one too: nothing is read, nothing written, nothing drawn. (LAID: no walk: one application.) -/
theorem Tryz.slices_Reverse_int_empty (a : Option Addr) (cap : Nat) (w : World) :
    Calls Tryz.prog 166 #[.slice a 0 cap] w fun e w' => e = .returned (.tuple #[]) ∧ w' = w := Any.slices_Reverse_int_empty Tryz.lays112 a cap w
def Tryz.laysNm237_ren : Go.Shelf.Ren := ⟨fun | 37 => 228 | n => n, fun | 3 => 3 | 4 => 4 | n => n, fun | n => n⟩
theorem Tryz.laysNm237 : Go.Proofs.Lays2.n37 Tryz.prog Tryz.laysNm237_ren := {
  mixed := by kernel_rfl
  f37 := Tryz.func228.trans (congrArg some (by kernel_rfl))
  t3 := Tryz.underlying3
  a3 := Tryz.isAgg3
  z3 := Tryz.sizeOf3
  v3 := Tryz.zeroValue3
  t4 := Tryz.underlying4
  a4 := Tryz.isAgg4
  z4 := Tryz.sizeOf4
  v4 := Tryz.zeroValue4 }
open Go.RowKit Go.Lib in
/-- cmp.isNaN[int]: 'x != x': false. (LAID: no walk: one application.) -/
theorem Tryz.cmp_isNaN_int2 (x : Int) (w : World) :
    Calls Tryz.prog 228 #[.int .i64 x] w fun e w' => e = .returned (.bool false) ∧ w' = w := Any.cmp_isNaN_int2 Tryz.laysNm237 x w
open Go.RowKit Go.Lib Go.Sort in
/-- slices.Reverse at []int, of an argument: the n cells hold the elements in reverse. (LAID: no walk: one application.) -/
theorem Tryz.slices_Reverse_int_cells (b off n c : Nat) (zs : List Int) (w : World) (hz : n ≤ zs.length) (hbig : n ≤ 9223372036854775807) (hc : ∀ j, j < zs.length → w.cell? ⟨b, off + j, none⟩ = some (.int .i64 (zs.getD j 0))) (hf : ∀ j, j < n → w.frozen? ⟨b, off + j, none⟩ = false) :
    Calls Tryz.prog 166 #[.slice (some ⟨b, off, none⟩) n c] w fun e w' => e = .returned (.tuple #[]) ∧ ∃ q, w' = (w.drewN q).setCells b off ((zs.take n).reverse.map (Value.int .i64)) := Any.slices_Reverse_int_cells Tryz.lays112 b off n c zs w hz hbig hc hf
def Tryz.laysSlE041_f176_ren : Go.Shelf.Ren := ⟨fun | 41 => 176 | n => n, fun | 22 => 61 | 23 => 106 | 4 => 4 | n => n, fun | n => n⟩
theorem Tryz.laysSlE041_f176 : Go.Proofs.SlLaysE0.n41 Tryz.prog Tryz.laysSlE041_f176_ren := {
  mixed := by kernel_rfl
  f41 := ⟨Tryz.f176.name, by decide, Tryz.func176.trans (congrArg some (by kernel_rfl))⟩
  t4 := Tryz.underlying4
  a4 := Tryz.isAgg4
  z4 := Tryz.sizeOf4
  v4 := Tryz.zeroValue4
  t22 := Tryz.underlying61
  a22 := Tryz.isAgg61
  z22 := Tryz.sizeOf61
  v22 := Tryz.zeroValue61 }
open Go.RowKit Go.Lib in
/-- slices.Clone: "Clone returns a copy of the slice. The elements are copied using assignment, so this is a shallow clone. The result may have additional unused capacity. The result preserves the nilness of s.": OF A SLICE THAT IS NOT nil IT RETURNS A SLICE THAT IS NOT nil, OF THE SAME CELLS, IN MEMORY OF THE CALL's OWN ('ownsRow': the how-to's 6f); below the heap's size at the call all is as it was. (LAID AT THE INSTANCE 'slices.Clone[syzygy/api.Nat,uint64]': no walk: one application.) -/
theorem Tryz.slices_Clone_f176 (i0 : TypeInfo) (z : Value) (size bytes : Nat) (hi : Tryz.prog.info? 106 = some i0) (hz0 : i0.zero = some z) (hz1 : i0.size = size) (hz2 : i0.bytes = bytes) (hzs : z.cells.size = size) (hsz : 0 < size) (z23 : ∀ w, (Go.sizeOf 106).run Tryz.prog w = .ok size w) (b off n c : Nat) (news : List Value) (w : World) (hl : news.length = n * size) (hn : n ≤ maxLen) (hbig : n * bytes ≤ 140737488355328) (hc : ∀ j u, news[j]? = some u → w.cell? ⟨b, off + j, none⟩ = some u) (h1 : ∀ u ∈ news, u.oneCell' = true) :
    Calls Tryz.prog 176 #[.slice (some ⟨b, off, none⟩) n c] w fun e w' => ∃ v', e = .returned v' ∧ w'.ownsRow w.heap.size 106 size v' n news ∧ v' ≠ .slice none 0 0 ∧ Below w.heap.size w w' := AnyE.slices_Clone Tryz.laysSlE041_f176 i0 z size bytes hi hz0 hz1 hz2 hzs hsz z23 b off n c news w hl hn hbig hc h1
def Tryz.laysSlE041_f241_ren : Go.Shelf.Ren := ⟨fun | 41 => 241 | n => n, fun | 22 => 27 | 23 => 25 | 4 => 4 | n => n, fun | n => n⟩
theorem Tryz.laysSlE041_f241 : Go.Proofs.SlLaysE0.n41 Tryz.prog Tryz.laysSlE041_f241_ren := {
  mixed := by kernel_rfl
  f41 := ⟨Tryz.f241.name, by decide, Tryz.func241.trans (congrArg some (by kernel_rfl))⟩
  t4 := Tryz.underlying4
  a4 := Tryz.isAgg4
  z4 := Tryz.sizeOf4
  v4 := Tryz.zeroValue4
  t22 := Tryz.underlying27
  a22 := Tryz.isAgg27
  z22 := Tryz.sizeOf27
  v22 := Tryz.zeroValue27 }
open Go.RowKit Go.Lib in
/-- slices.Clone: "Clone returns a copy of the slice. The elements are copied using assignment, so this is a shallow clone. The result may have additional unused capacity. The result preserves the nilness of s.": OF A SLICE THAT IS NOT nil IT RETURNS A SLICE THAT IS NOT nil, OF THE SAME CELLS, IN MEMORY OF THE CALL's OWN ('ownsRow': the how-to's 6f); below the heap's size at the call all is as it was. (LAID AT THE INSTANCE 'slices.Clone[[]syzygy/api.Poly,syzygy/api.Poly]': no walk: one application.) -/
theorem Tryz.slices_Clone_f241 (i0 : TypeInfo) (z : Value) (size bytes : Nat) (hi : Tryz.prog.info? 25 = some i0) (hz0 : i0.zero = some z) (hz1 : i0.size = size) (hz2 : i0.bytes = bytes) (hzs : z.cells.size = size) (hsz : 0 < size) (z23 : ∀ w, (Go.sizeOf 25).run Tryz.prog w = .ok size w) (b off n c : Nat) (news : List Value) (w : World) (hl : news.length = n * size) (hn : n ≤ maxLen) (hbig : n * bytes ≤ 140737488355328) (hc : ∀ j u, news[j]? = some u → w.cell? ⟨b, off + j, none⟩ = some u) (h1 : ∀ u ∈ news, u.oneCell' = true) :
    Calls Tryz.prog 241 #[.slice (some ⟨b, off, none⟩) n c] w fun e w' => ∃ v', e = .returned v' ∧ w'.ownsRow w.heap.size 25 size v' n news ∧ v' ≠ .slice none 0 0 ∧ Below w.heap.size w w' := AnyE.slices_Clone Tryz.laysSlE041_f241 i0 z size bytes hi hz0 hz1 hz2 hzs hsz z23 b off n c news w hl hn hbig hc h1
def Tryz.laysSlE041_f249_ren : Go.Shelf.Ren := ⟨fun | 41 => 249 | n => n, fun | 22 => 60 | 23 => 106 | 4 => 4 | n => n, fun | n => n⟩
theorem Tryz.laysSlE041_f249 : Go.Proofs.SlLaysE0.n41 Tryz.prog Tryz.laysSlE041_f249_ren := {
  mixed := by kernel_rfl
  f41 := ⟨Tryz.f249.name, by decide, Tryz.func249.trans (congrArg some (by kernel_rfl))⟩
  t4 := Tryz.underlying4
  a4 := Tryz.isAgg4
  z4 := Tryz.sizeOf4
  v4 := Tryz.zeroValue4
  t22 := Tryz.underlying60
  a22 := Tryz.isAgg60
  z22 := Tryz.sizeOf60
  v22 := Tryz.zeroValue60 }
open Go.RowKit Go.Lib in
/-- slices.Clone: "Clone returns a copy of the slice. The elements are copied using assignment, so this is a shallow clone. The result may have additional unused capacity. The result preserves the nilness of s.": OF A SLICE THAT IS NOT nil IT RETURNS A SLICE THAT IS NOT nil, OF THE SAME CELLS, IN MEMORY OF THE CALL's OWN ('ownsRow': the how-to's 6f); below the heap's size at the call all is as it was. (LAID AT THE INSTANCE 'slices.Clone[[]uint64,uint64]': no walk: one application.) -/
theorem Tryz.slices_Clone_f249 (i0 : TypeInfo) (z : Value) (size bytes : Nat) (hi : Tryz.prog.info? 106 = some i0) (hz0 : i0.zero = some z) (hz1 : i0.size = size) (hz2 : i0.bytes = bytes) (hzs : z.cells.size = size) (hsz : 0 < size) (z23 : ∀ w, (Go.sizeOf 106).run Tryz.prog w = .ok size w) (b off n c : Nat) (news : List Value) (w : World) (hl : news.length = n * size) (hn : n ≤ maxLen) (hbig : n * bytes ≤ 140737488355328) (hc : ∀ j u, news[j]? = some u → w.cell? ⟨b, off + j, none⟩ = some u) (h1 : ∀ u ∈ news, u.oneCell' = true) :
    Calls Tryz.prog 249 #[.slice (some ⟨b, off, none⟩) n c] w fun e w' => ∃ v', e = .returned v' ∧ w'.ownsRow w.heap.size 106 size v' n news ∧ v' ≠ .slice none 0 0 ∧ Below w.heap.size w w' := AnyE.slices_Clone Tryz.laysSlE041_f249 i0 z size bytes hi hz0 hz1 hz2 hzs hsz z23 b off n c news w hl hn hbig hc h1
open Go.RowKit Go.Lib in
/-- The same at nil: nil comes back; the world is as it was; nothing is asked of the element's type. (LAID AT THE INSTANCE 'slices.Clone[syzygy/api.Nat,uint64]': no walk: one application.) -/
theorem Tryz.slices_Clone_nil_f176 (n c : Nat) (w : World) :
    Calls Tryz.prog 176 #[.slice none n c] w fun e w' => e = .returned (.slice none 0 0) ∧ w' = w := AnyE.slices_Clone_nil Tryz.laysSlE041_f176 n c w
open Go.RowKit Go.Lib in
/-- The same at nil: nil comes back; the world is as it was; nothing is asked of the element's type. (LAID AT THE INSTANCE 'slices.Clone[[]syzygy/api.Poly,syzygy/api.Poly]': no walk: one application.) -/
theorem Tryz.slices_Clone_nil_f241 (n c : Nat) (w : World) :
    Calls Tryz.prog 241 #[.slice none n c] w fun e w' => e = .returned (.slice none 0 0) ∧ w' = w := AnyE.slices_Clone_nil Tryz.laysSlE041_f241 n c w
open Go.RowKit Go.Lib in
/-- The same at nil: nil comes back; the world is as it was; nothing is asked of the element's type. (LAID AT THE INSTANCE 'slices.Clone[[]uint64,uint64]': no walk: one application.) -/
theorem Tryz.slices_Clone_nil_f249 (n c : Nat) (w : World) :
    Calls Tryz.prog 249 #[.slice none n c] w fun e w' => e = .returned (.slice none 0 0) ∧ w' = w := AnyE.slices_Clone_nil Tryz.laysSlE041_f249 n c w
end Go.Proofs
/- Monomials as data; walks of mono.May, mono.Degree, cmp.Compare, cmp.Or, slices.Compare. No condition. -/
namespace Go.Proofs.YtidjbiopneoeeaaGreat
open Go.RowKit

structure MonD where
  x0 : Int
  x1 : Int
  x2 : Int
  x3 : Int
deriving DecidableEq
def MonD.l (m : MonD) : List Int := [m.x0, m.x1, m.x2, m.x3]
def badE (x : Int) : Bool := decide (x < 0) || decide (40 < x)
def monMay (m : MonD) : Bool := !(m.l.any badE)
theorem monMay_of {m : MonD} (h : monMay m = true) : (0 ≤ m.x0 ∧ m.x0 ≤ 40) ∧ (0 ≤ m.x1 ∧ m.x1 ≤ 40) ∧ (0 ≤ m.x2 ∧ m.x2 ≤ 40) ∧ (0 ≤ m.x3 ∧ m.x3 ≤ 40) := by
  simp only [monMay, MonD.l, List.any_cons, List.any_nil, badE, Bool.or_false, Bool.not_eq_true', Bool.or_eq_false_iff, decide_eq_false_iff_not] at h
  omega

theorem May_1 (x : Int) (w : World) : Calls Tryz.prog 208 #[.int .i64 x] w fun e w' => e = .returned (.bool (badE x)) ∧ w = w' := by
  by_cases h1 : x < 0
  · have e1 : decide (x < 0) = true := decide_eq_true h1
    have hb : Hd (badE x = true) := ⟨by unfold badE; rw [e1]; rfl⟩
    go_enter Tryz.func208, Tryz.ntmps208
    go_wp2_with fail
    go_ret
    exact ⟨retBool hb.out.symm, rfl⟩
  · have e1 : decide (x < 0) = false := decide_eq_false h1
    by_cases h2 : 40 < x
    · have e2 : decide (40 < x) = true := decide_eq_true h2
      have hb : Hd (badE x = true) := ⟨by unfold badE; rw [e1, e2]; rfl⟩
      go_enter Tryz.func208, Tryz.ntmps208
      go_wp2_with fail
      go_ret
      exact ⟨retBool hb.out.symm, rfl⟩
    · have e2 : decide (40 < x) = false := decide_eq_false h2
      have hb : Hd (badE x = false) := ⟨by unfold badE; rw [e1, e2]; rfl⟩
      go_enter Tryz.func208, Tryz.ntmps208
      go_wp2_with fail
      go_ret
      exact ⟨retBool hb.out.symm, rfl⟩

set_option maxHeartbeats 1000000 in
set_option maxRecDepth 100000 in
theorem index_badE (A : Option Addr) (c : Nat) (l : List Int) (w : World) (h : RdI w .i64 A l) (hn : l.length ≤ c) (h6 : l.length ≤ 100000000) :
    Calls Tryz.prog 189 #[.slice A l.length c, .func (.func 208) #[] #[]] w fun e w' => ∃ i : Int, e = .returned (.int .i64 i) ∧ decide (0 ≤ i) = l.any badE ∧ w = w' := by
  have H := Hd.mk h
  clear h
  go_enter Tryz.func189, Tryz.ntmps189
  go_wp2_with fail
  go_loop [8] (fun v => ∃ i : Nat, v = .int .i64 i ∧ i ≤ l.length ∧ Hd ((l.take i).any badE = false)) (fun v => l.length - (intOf v).toNat)
  case atStart => exact ⟨0, rfl, by omega, ⟨rfl⟩⟩
  case round =>
    obtain ⟨i, rfl, hi, ht⟩ := hrel
    by_cases hlt : i < l.length
    · obtain ⟨ad, x, rfl, _, hx, hcell⟩ := H.out.get hlt
      have i2 : (i : Int) < l.length := by omega
      have hsn : Hd ((l.take (i + 1)).any badE = ((l.take i).any badE || badE x)) := ⟨by rw [take_snoc hlt, List.any_append, hx.out]; simp⟩
      have CB := Hd.mk (May_1 x w)
      cases h8 : badE x
      · rw [h8] at CB hsn
        clear h8
        go_wp2_with fail
        refine CB.out.mono ?_
        rintro e w' ⟨rfl, rfl⟩
        go_wp2_with fail
        go_round
        case measure => first | (simp [intOf]; done) | (simp [intOf]; omega)
        case rel => exact ⟨i + 1, by go_num, by omega, ⟨by rw [hsn.out, ht.out]; rfl⟩⟩
      · rw [h8] at CB hsn
        clear h8
        go_wp2_with fail
        refine CB.out.mono ?_
        rintro e w' ⟨rfl, rfl⟩
        go_wp2_with fail
        go_ret
        refine ⟨_, rfl, ?_, rfl⟩
        have h1 := hsn.out
        rw [Bool.or_true] at h1
        rw [decide_eq_true (by omega : (0 : Int) ≤ i)]
        conv => rhs; rw [← List.take_append_drop (i + 1) l]
        rw [List.any_append, h1]; rfl
    · have hie : i = l.length := by omega
      subst hie
      go_wp2_with fail
      go_ret
      refine ⟨_, rfl, ?_, rfl⟩
      have := ht.out
      rw [List.take_length] at this
      rw [this]; rfl

theorem arr_new (w : World) (m : MonD) (t : TypeId) : RdI (w.alloc (.cells #[.int .i64 m.x0, .int .i64 m.x1, .int .i64 m.x2, .int .i64 m.x3] t)) .i64 (some ⟨w.heap.size, 0, none⟩) m.l := by
  have := Rd.new_ w #[.int .i64 m.x0, .int .i64 m.x1, .int .i64 m.x2, .int .i64 m.x3] t 4 1 rfl
  unfold RdI
  rw [show (w.alloc (.cells #[.int .i64 m.x0, .int .i64 m.x1, .int .i64 m.x2, .int .i64 m.x3] t)).heap.size = w.heap.size + 1 by simp]
  exact this

set_option maxHeartbeats 400000 in
theorem mono_May (m : MonD) (w : World) :
    Calls Tryz.prog 149 #[.agg #[.int .i64 m.x0, .int .i64 m.x1, .int .i64 m.x2, .int .i64 m.x3]] w fun e w' => e = .returned (.bool (monMay m)) ∧ Blw w.heap.size w w' := by
  have hb : Hd (Blw w.heap.size w (w.alloc (.cells #[.int .i64 m.x0, .int .i64 m.x1, .int .i64 m.x2, .int .i64 m.x3] 65))) := ⟨(Blw.refl _ _).alloc (Nat.le_refl _) _⟩
  have hi := Hd.mk (index_badE (some ⟨w.heap.size, 0, none⟩) 4 m.l _ (arr_new w m 65) (Nat.le_refl _) (by simp [MonD.l]))
  have hc : Calls Tryz.prog 122 #[.slice (some ⟨w.heap.size, 0, none⟩) 4 4, .func (.func 208) #[] #[]] (w.alloc (.cells #[.int .i64 m.x0, .int .i64 m.x1, .int .i64 m.x2, .int .i64 m.x3] 65)) fun e w' => e = .returned (.bool (m.l.any badE)) ∧ (w.alloc (.cells #[.int .i64 m.x0, .int .i64 m.x1, .int .i64 m.x2, .int .i64 m.x3] 65)) = w' := by
    go_enter Tryz.func122, Tryz.ntmps122
    go_wp2_with fail
    refine hi.out.mono ?_
    rintro e w' ⟨i, rfl, hib, rfl⟩
    have HIB := Hd.mk hib
    clear hib
    go_wp2_with fail
    go_ret
    exact ⟨retBool HIB.out, rfl⟩
  have HC := Hd.mk hc
  clear hc
  go_enter Tryz.func149, Tryz.ntmps149
  go_wp2_with fail
  refine HC.out.mono ?_
  rintro e w' ⟨rfl, rfl⟩
  go_wp2_with fail
  go_ret
  exact ⟨rfl, hb.out⟩

def cmpI (x y : Int) : Int := if x < y then -1 else if y < x then 1 else 0

set_option maxHeartbeats 400000 in
theorem cmp_Compare (x y : Int) (w : World) : Calls Tryz.prog 163 #[.int .i64 x, .int .i64 y] w fun e w' => e = .returned (.int .i64 (cmpI x y)) ∧ w = w' := by
  have N1 := Hd.mk (Tryz.cmp_isNaN_int x w)
  have N2 := Hd.mk (Tryz.cmp_isNaN_int y w)
  by_cases h1 : x < y
  · have hc : Hd (cmpI x y = -1) := ⟨by unfold cmpI; rw [if_pos h1]⟩
    go_enter Tryz.func163, Tryz.ntmps163
    go_wp2_with fail
    refine N1.out.mono ?_
    rintro e w' ⟨rfl, rfl⟩
    go_wp2_with fail
    refine N2.out.mono ?_
    rintro e w' ⟨rfl, rfl⟩
    go_wp2_with fail
    go_ret
    exact ⟨retInt hc.out.symm, rfl⟩
  · by_cases h2 : y < x
    · have hc : Hd (cmpI x y = 1) := ⟨by unfold cmpI; rw [if_neg h1, if_pos h2]⟩
      go_enter Tryz.func163, Tryz.ntmps163
      go_wp2_with fail
      refine N1.out.mono ?_
      rintro e w' ⟨rfl, rfl⟩
      go_wp2_with fail
      refine N2.out.mono ?_
      rintro e w' ⟨rfl, rfl⟩
      go_wp2_with fail
      go_ret
      exact ⟨retInt hc.out.symm, rfl⟩
    · have hc : Hd (cmpI x y = 0) := ⟨by unfold cmpI; rw [if_neg h1, if_neg h2]⟩
      go_enter Tryz.func163, Tryz.ntmps163
      go_wp2_with fail
      refine N1.out.mono ?_
      rintro e w' ⟨rfl, rfl⟩
      go_wp2_with fail
      refine N2.out.mono ?_
      rintro e w' ⟨rfl, rfl⟩
      go_wp2_with fail
      go_ret
      exact ⟨retInt hc.out.symm, rfl⟩

def lexC : List Int → List Int → Int
  | x :: l, y :: m => if cmpI x y ≠ 0 then cmpI x y else lexC l m
  | _, _ => 0

set_option maxHeartbeats 1000000 in
set_option maxRecDepth 100000 in
theorem slices_Compare (A B : Option Addr) (c d : Nat) (l m : List Int) (w : World) (h : RdI w .i64 A l) (hn : l.length ≤ c) (h' : RdI w .i64 B m) (hn' : m.length ≤ d) (hl : l.length = m.length) (h9 : l.length ≤ 1000000) :
    Calls Tryz.prog 159 #[.slice A l.length c, .slice B m.length d] w fun e w' => e = .returned (.int .i64 (lexC l m)) ∧ w = w' := by
  have HL := Hd.mk hl
  have H := Hd.mk h
  have H' := Hd.mk h'
  clear h h' hl
  go_enter Tryz.func159, Tryz.ntmps159
  go_wp2_with fail
  go_loop [11] (fun v => ∃ i : Nat, v = .int .i64 i ∧ i ≤ l.length ∧ Hd (lexC l m = lexC (l.drop i) (m.drop i))) (fun v => l.length - (intOf v).toNat)
  case atStart => exact ⟨0, rfl, by omega, ⟨rfl⟩⟩
  case round =>
    obtain ⟨i, rfl, hi, ht⟩ := hrel
    by_cases hlt : i < l.length
    · have hlt2 : i < m.length := by have := HL.out; omega
      obtain ⟨ad, x, rfl, _, hx, hcx⟩ := H.out.get hlt
      obtain ⟨bd, y, rfl, _, hy, hcy⟩ := H'.out.get hlt2
      have i1 : (i : Int) < m.length := by omega
      have i2 : (i : Int) < l.length := by omega
      have CC := Hd.mk (cmp_Compare x y w)
      have hst : Hd (lexC (l.drop i) (m.drop i) = if cmpI x y ≠ 0 then cmpI x y else lexC (l.drop (i + 1)) (m.drop (i + 1))) := ⟨by rw [drop_at hlt, drop_at hlt2, hx.out, hy.out, lexC]⟩
      obtain ⟨k, hk⟩ : ∃ k, cmpI x y = k := ⟨_, rfl⟩
      rw [hk] at CC hst
      clear hk
      by_cases hk0 : k = 0
      · subst hk0
        go_wp2_with fail
        refine CC.out.mono ?_
        rintro e w' ⟨rfl, rfl⟩
        go_wp2_with fail
        go_round
        case measure => first | (simp [intOf]; done) | (simp [intOf]; omega)
        case rel => exact ⟨i + 1, by go_num, by omega, ⟨by rw [ht.out, hst.out]; rfl⟩⟩
      · have hk1 : (k != 0) = true := by rw [bne_iff_ne]; exact hk0
        go_wp2_with fail
        refine CC.out.mono ?_
        rintro e w' ⟨rfl, rfl⟩
        go_wp2_with fail
        go_ret
        refine ⟨retInt ?_, rfl⟩
        rw [ht.out, hst.out, if_pos hk0]
    · have hie : i = l.length := by omega
      subst hie
      have hr : ¬ ((l.length : Int) < m.length) := by have := HL.out; omega
      go_wp2_with fail
      go_ret
      refine ⟨retInt ?_, rfl⟩
      rw [ht.out, List.drop_length]; rfl
end Go.Proofs.YtidjbiopneoeeaaGreat
/- Walks of mono.Degree, cmp.Or of two, and the closures of mono.Cmp. No condition. -/
namespace Go.Proofs.YtidjbiopneoeeaaGreat
open Go.RowKit

theorem put_eq {K : Act → World → Prop} {a : Act} {d : Option Tmp} {v u : Value} {w : World} (e : v = u) (h : K (a.put d u) w) : K (a.put d v) w := e ▸ h

def preS (m : MonD) : Nat → Int
  | 0 => 0
  | 1 => m.x0
  | 2 => m.x0 + m.x1
  | 3 => m.x0 + m.x1 + m.x2
  | _ => m.x0 + m.x1 + m.x2 + m.x3
def monDeg (m : MonD) : Int := if monMay m then m.x0 + m.x1 + m.x2 + m.x3 else 0

set_option maxHeartbeats 1000000 in
set_option maxRecDepth 100000 in
theorem mono_Degree (m : MonD) (w : World) :
    Calls Tryz.prog 164 #[.agg #[.int .i64 m.x0, .int .i64 m.x1, .int .i64 m.x2, .int .i64 m.x3]] w fun e w' => e = .returned (.int .i64 (monDeg m)) ∧ Blw w.heap.size w w' := by
  have hb : Hd (Blw w.heap.size w (w.alloc (.cells #[.int .i64 m.x0, .int .i64 m.x1, .int .i64 m.x2, .int .i64 m.x3] 65))) := ⟨(Blw.refl _ _).alloc (Nat.le_refl _) _⟩
  have CM := Hd.mk (mono_May m (w.alloc (.cells #[.int .i64 m.x0, .int .i64 m.x1, .int .i64 m.x2, .int .i64 m.x3] 65)))
  have k1 := Hd.mk (Bk.new_ w 65 #[.int .i64 m.x0, .int .i64 m.x1, .int .i64 m.x2, .int .i64 m.x3])
  cases hm : monMay m
  · rw [hm] at CM
    have HD : Hd (monDeg m = 0) := ⟨by unfold monDeg; rw [hm]; rfl⟩
    clear hm
    go_enter Tryz.func164, Tryz.ntmps164
    go_wp2_with fail
    refine CM.out.mono ?_
    rintro e w2 ⟨rfl, hb2⟩
    have HB := Hd.mk (hb.out.trans (hb2.mono hb.out.size))
    clear hb2
    go_wp2_with fail
    go_ret
    exact ⟨retInt HD.out.symm, HB.out⟩
  · rw [hm] at CM
    have HD : Hd (monDeg m = m.x0 + m.x1 + m.x2 + m.x3) := ⟨by unfold monDeg; rw [hm]; rfl⟩
    obtain ⟨b0, b1, b2, b3⟩ := monMay_of hm
    clear hm
    go_enter Tryz.func164, Tryz.ntmps164
    go_wp2_with fail
    refine CM.out.mono ?_
    rintro e w2 ⟨rfl, hb2⟩
    have HB := Hd.mk (hb.out.trans (hb2.mono hb.out.size))
    have k2 := k1.out.up hb2.lo
    have c0 : w2.cell? ⟨w.heap.size, 0, none⟩ = some (.int .i64 m.x0) := by rw [k2.cell]; rfl
    have c1 : w2.cell? ⟨w.heap.size, 1, none⟩ = some (.int .i64 m.x1) := by rw [k2.cell]; rfl
    have c2 : w2.cell? ⟨w.heap.size, 2, none⟩ = some (.int .i64 m.x2) := by rw [k2.cell]; rfl
    have c3 : w2.cell? ⟨w.heap.size, 3, none⟩ = some (.int .i64 m.x3) := by rw [k2.cell]; rfl
    clear hb2 k2
    go_wp2_with fail
    go_loop [2, 9] (fun v2 v9 => ∃ i : Nat, v9 = .int .i64 i ∧ v2 = .int .i64 (preS m i) ∧ i ≤ 4) (fun _ v => 4 - (intOf v).toNat)
    case atStart => exact ⟨0, rfl, rfl, by omega⟩
    case round =>
      obtain ⟨i, rfl, rfl, hi⟩ := hrel
      rcases (show i = 0 ∨ i = 1 ∨ i = 2 ∨ i = 3 ∨ i = 4 by omega) with rfl | rfl | rfl | rfl | rfl
      · simp only [preS]
        go_wp2_with fail
        refine put_eq (u := .int .i64 m.x0) rfl ?_
        go_wp2_with fail
        go_round
        case measure => first | (simp [intOf]; done) | (simp [intOf]; omega)
        case rel => exact ⟨1, rfl, by simp [preS], by omega⟩
      · simp only [preS]
        go_wp2_with fail
        refine put_eq (u := .int .i64 m.x1) rfl ?_
        go_wp2_with fail
        go_round
        case measure => first | (simp [intOf]; done) | (simp [intOf]; omega)
        case rel => exact ⟨2, rfl, by simp [preS], by omega⟩
      · simp only [preS]
        go_wp2_with fail
        refine put_eq (u := .int .i64 m.x2) rfl ?_
        go_wp2_with fail
        go_round
        case measure => first | (simp [intOf]; done) | (simp [intOf]; omega)
        case rel => exact ⟨3, rfl, by simp [preS], by omega⟩
      · simp only [preS]
        go_wp2_with fail
        refine put_eq (u := .int .i64 m.x3) rfl ?_
        go_wp2_with fail
        go_round
        case measure => first | (simp [intOf]; done) | (simp [intOf]; omega)
        case rel => exact ⟨4, rfl, by simp [preS], by omega⟩
      · simp only [preS]
        go_wp2_with fail
        go_ret
        exact ⟨retInt HD.out.symm, HB.out⟩

set_option maxHeartbeats 1000000 in
theorem cmp_Or2 (a b : Int) (A : Option Addr) (c : Nat) (w : World) (h : RdI w .i64 A [a, b]) :
    Calls Tryz.prog 162 #[.slice A 2 c] w fun e w' => e = .returned (.int .i64 (if a ≠ 0 then a else b)) ∧ w = w' := by
  obtain ⟨ad, x, rfl, _, hx, hc0⟩ := h.get (i := 0) (by simp)
  obtain ⟨ad', y, hA, _, hy, hc1⟩ := h.get (i := 1) (by simp)
  injection hA with hA
  subst hA
  have h0 : w.cell? ad = some (.int .i64 x) := by simpa [Addr.add] using hc0
  have h1 : w.cell? ⟨ad.block, ad.off + 1, none⟩ = some (.int .i64 y) := by simpa [Addr.add] using hc1
  obtain rfl : a = x := hx.out
  obtain rfl : b = y := hy.out
  clear hx hy
  by_cases ha : a = 0
  · subst ha
    by_cases hb : b = 0
    · subst hb
      go_enter Tryz.func162, Tryz.ntmps162
      go_wp2_with fail
      go_loop [8] (fun v => ∃ i : Nat, v = .int .i64 i ∧ i ≤ 2) (fun v => 2 - (intOf v).toNat)
      case atStart => exact ⟨0, rfl, by omega⟩
      case round =>
        obtain ⟨i, rfl, hi⟩ := hrel
        rcases (show i = 0 ∨ i = 1 ∨ i = 2 by omega) with rfl | rfl | rfl
        · go_wp2_with fail
          go_round
          case measure => first | (simp [intOf]; done) | (simp [intOf]; omega)
          case rel => exact ⟨1, rfl, by omega⟩
        · go_wp2_with fail
          go_round
          case measure => first | (simp [intOf]; done) | (simp [intOf]; omega)
          case rel => exact ⟨2, rfl, by omega⟩
        · go_wp2_with fail
          go_ret
          exact ⟨rfl, rfl⟩
    · have hb2 : (b != 0) = true := by rw [bne_iff_ne]; exact hb
      go_enter Tryz.func162, Tryz.ntmps162
      go_wp2_with fail
      go_loop [8] (fun v => ∃ i : Nat, v = .int .i64 i ∧ i ≤ 1) (fun v => 2 - (intOf v).toNat)
      case atStart => exact ⟨0, rfl, by omega⟩
      case round =>
        obtain ⟨i, rfl, hi⟩ := hrel
        rcases (show i = 0 ∨ i = 1 by omega) with rfl | rfl
        · go_wp2_with fail
          go_round
          case measure => first | (simp [intOf]; done) | (simp [intOf]; omega)
          case rel => exact ⟨1, rfl, by omega⟩
        · go_wp2_with fail
          go_ret
          exact ⟨rfl, rfl⟩
  · have ha2 : (a != 0) = true := by rw [bne_iff_ne]; exact ha
    go_enter Tryz.func162, Tryz.ntmps162
    go_wp2_with fail
    go_loop [8] (fun v => ∃ i : Nat, v = .int .i64 i ∧ i = 0) (fun v => 2 - (intOf v).toNat)
    case atStart => exact ⟨0, rfl, by omega⟩
    case round =>
      obtain ⟨i, rfl, rfl⟩ := hrel
      go_wp2_with fail
      go_ret
      exact ⟨rfl, rfl⟩
end Go.Proofs.YtidjbiopneoeeaaGreat
