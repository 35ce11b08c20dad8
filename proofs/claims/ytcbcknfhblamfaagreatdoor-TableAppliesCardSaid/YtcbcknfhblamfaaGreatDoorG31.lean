/- What the rows' condition says of the type error, in the walks' words (apart from the table of rounds). · sum.Num: eight bytes of a number. · Package sum: turn, and block (the walks). -/
import Derived.Test.YtcbcknfhblamfaaGreatDoorRows
import Derived.Lib.LaidTab
import Derived.Stop.LaidErr
import Derived.LaidMore
import Derived.MakeChecks
import Derived.Test.YtcbcknfhblamfaaGreatDoorG29
import Derived.LaidHandle
import Derived.Test.YtcbcknfhblamfaaGreatDoorProg
import Derived.Test.YtcbcknfhblamfaaGreatDoorG28
import Derived.Test.YtcbcknfhblamfaaGreatDoorG22
import Derived.Test.YtcbcknfhblamfaaGreatDoorG12
namespace Go.Proofs.YtcbcknfhblamfaaGreatDoor
open Go.RowKit

theorem own : ownKnob Tryz.prog.godebug = none := by kernel_rfl
theorem rtypeT : (Tryz.prog.cutTypes.find? (·.1 == "internal/reflectlite.rtype")).map (·.2) = some 94 := by kernel_rfl
theorem gErr : Tryz.prog.globalNamed "errors.errorType" = some 0 := by kernel_rfl
theorem errRow : ((List.range 193).filter fun t => Tryz.prog.rowNamed t [101, 114, 114, 111, 114]) = [36] := by kernel_rfl
theorem typesSize : Tryz.prog.types.size = 193 := by kernel_rfl
/-- The handle of the type error. -/
theorem ErrT_of_met {W : World} (h : handlesMet Tryz.prog [("errors.errorType", Rows.laid_errors_errorType)] W) : ErrT W := by
  obtain ⟨name, u, ty, e1, e2, e3, e4, e5⟩ := h _ (List.mem_singleton.2 rfl)
  have en : name = [101, 114, 114, 111, 114] := (Option.some.inj e1).symm
  subst en
  obtain rfl := Option.some.inj (rtypeT.symm.trans e2)
  have hm : ty ∈ (List.range 193).filter fun t => Tryz.prog.rowNamed t [101, 114, 114, 111, 114] := List.mem_filter.2 ⟨List.mem_range.2 (by rw [← typesSize]; exact e3), e4⟩
  rw [errRow] at hm
  obtain rfl := List.mem_singleton.1 hm
  have hh : typeHandle Tryz.prog 36 = rt 36 := by kernel_rfl
  rw [hh] at e5
  have := World.var?_cell gErr e5 0
  simpa [ErrT] using this
end Go.Proofs.YtcbcknfhblamfaaGreatDoor
namespace Go.Proofs.YtcbcknfhblamfaaGreatDoor
open Go.RowKit

/-- Byte number k of a number, the least first. -/
def byteOf (n : Int) (k : Nat) : UInt8 := UInt8.ofNat (n % 18446744073709551616 / 2 ^ (8 * k)).toNat
theorem byteOf_val (n : Int) (k : Nat) : ((byteOf n k).toNat : Int) = n % 18446744073709551616 / 2 ^ (8 * k) % 256 := by
  unfold byteOf
  rw [UInt8.toNat_ofNat']
  have h : 0 ≤ n % 18446744073709551616 / 2 ^ (8 * k) := Int.ediv_nonneg (Int.emod_nonneg _ (by decide)) (by exact_mod_cast Nat.zero_le _)
  omega
/-- The first k of them, the greatest first. -/
def numTo (n : Int) (k : Nat) : List UInt8 := (List.range k).map fun j => byteOf n (7 - j)
theorem numTo_succ (n : Int) (k : Nat) : numTo n (k + 1) = numTo n k ++ [byteOf n (7 - k)] := by simp [numTo, List.range_succ]
theorem numTo_length (n : Int) (k : Nat) : (numTo n k).length = k := by simp [numTo]
def numB (n : Int) : List UInt8 := numTo n 8

end Go.Proofs.YtcbcknfhblamfaaGreatDoor
namespace Go.Proofs.YtcbcknfhblamfaaGreatDoor
open Go.RowKit

/-- A word turned to the right. -/
def rotr (x : BitVec 32) (n : Nat) : BitVec 32 := x >>> n ||| x <<< (32 - n)
def roundsL : List Nat := [1116352408, 1899447441, 3049323471, 3921009573, 961987163, 1508970993, 2453635748, 2870763221, 3624381080, 310598401, 607225278, 1426881987, 1925078388, 2162078206, 2614888103, 3248222580, 3835390401, 4022224774, 264347078, 604807628, 770255983, 1249150122, 1555081692, 1996064986, 2554220882, 2821834349, 2952996808, 3210313671, 3336571891, 3584528711, 113926993, 338241895, 666307205, 773529912, 1294757372, 1396182291, 1695183700, 1986661051, 2177026350, 2456956037, 2730485921, 2820302411, 3259730800, 3345764771, 3516065817, 3600352804, 4094571909, 275423344, 430227734, 506948616, 659060556, 883997877, 958139571, 1322822218, 1537002063, 1747873779, 1955562222, 2024104815, 2227730452, 2361852424, 2428436474, 2756734187, 3204031479, 3329325298]
/-- The 64 numbers of rounds. -/
def K256 (i : Nat) : BitVec 32 := BitVec.ofNat 32 (roundsL.getD i 0)
theorem byteV (b : UInt8) : (b.toNat : Int) = val (BitVec.ofNat 32 b.toNat) := by
  have := b.toNat_lt
  unfold val
  rw [BitVec.toNat_ofNat, Nat.mod_eq_of_lt (by omega)]
@[go_sem] theorem shr3 (x : BitVec 32) : val x / (8 : Int) = val (x >>> 3) := by have := shr32 x 3; simp only [Int.reducePow] at this; exact this
@[go_sem] theorem shr10 (x : BitVec 32) : val x / (1024 : Int) = val (x >>> 10) := by have := shr32 x 10; simp only [Int.reducePow] at this; exact this
@[go_sem] theorem add3 (a b c : BitVec 32) : (val a + val b + val c) % 4294967296 = val (a + b + c) := by
  rw [← add32 (a + b) c, ← add32 a b]; omega
@[go_sem] theorem add4 (a b c d : BitVec 32) : (val a + val b + val c + val d) % 4294967296 = val (a + b + c + d) := by
  rw [← add32 (a + b + c) d, ← add32 (a + b) c, ← add32 a b]; omega
@[go_sem] theorem not32 (x : BitVec 32) : bits .xor .u32 IntKind.u32.max (val x) = val (~~~x) := by
  have h : IntKind.u32.max = val (BitVec.allOnes 32) := by decide
  rw [h, xor32, BitVec.allOnes_xor]
theorem grown_setRow (w : World) (g : Nat) (cs : Array Value) : w.grownBy (w.setRow g cs) (some g) :=
  ⟨rfl, rfl, rfl, by simp, fun k _ hne => setRow_other w g k cs (fun e => hne (by rw [e]))⟩
/-! ### block -/
/-- Four bytes, the greatest first. -/
def be32 (l : List UInt8) (k : Nat) : BitVec 32 :=
  BitVec.ofNat 32 (l.getD k 0).toNat <<< 24 ||| BitVec.ofNat 32 (l.getD (k + 1) 0).toNat <<< 16 ||| BitVec.ofNat 32 (l.getD (k + 2) 0).toNat <<< 8 ||| BitVec.ofNat 32 (l.getD (k + 3) 0).toNat
theorem be32_walk (s : ByteArray) (k : Nat) (h : k + 3 < s.size) :
    bits .or .u32 (bits .or .u32 (bits .or .u32 (((s[k].toNat : Nat) : Int) * 16777216 % 4294967296) (((s[k + 1].toNat : Nat) : Int) * 65536 % 4294967296)) (((s[k + 2].toNat : Nat) : Int) * 256 % 4294967296)) ((s[k + 3].toNat : Nat) : Int) =
      val (be32 s.data.toList k) := by
  rw [byteV s[k], byteV s[k + 1], byteV s[k + 2], byteV s[k + 3]]
  have e8 := shl32 (BitVec.ofNat 32 s[k + 2].toNat) 8
  have e16 := shl32 (BitVec.ofNat 32 s[k + 1].toNat) 16
  have e24 := shl32 (BitVec.ofNat 32 s[k].toNat) 24
  simp only [Int.reducePow] at e8 e16 e24
  rw [e8, e16, e24, or32, or32, or32]
  unfold be32
  rw [get_data0 s k (by omega), get_data0 s (k + 1) (by omega), get_data0 s (k + 2) (by omega), get_data0 s (k + 3) h]
/-- The first k words. -/
def wordsTo (l : List UInt8) (k : Nat) : Nat → BitVec 32 := fun j => if j < k then be32 l (4 * j) else 0
theorem wordsTo_zero (l : List UInt8) : wordsTo l 0 = fun _ => 0 := rfl
theorem wordsTo_succ (l : List UInt8) (k : Nat) : upd (wordsTo l k) k (be32 l (4 * k)) = wordsTo l (k + 1) := by
  funext j
  unfold upd wordsTo
  by_cases h : j = k
  · subst h; rw [if_pos rfl, if_pos (by omega)]
  · rw [if_neg h]
    by_cases h2 : j < k
    · rw [if_pos h2, if_pos (by omega)]
    · rw [if_neg h2, if_neg (by omega)]
def sigA (x : BitVec 32) : BitVec 32 := rotr x 7 ^^^ rotr x 18 ^^^ x >>> 3
def sigB (x : BitVec 32) : BitVec 32 := rotr x 17 ^^^ rotr x 19 ^^^ x >>> 10
/-- k words more. -/
def sched (W : Nat → BitVec 32) : Nat → (Nat → BitVec 32)
  | 0 => W
  | k + 1 => upd (sched W k) (16 + k) (sched W k k + sigA (sched W k (k + 1)) + sched W k (k + 9) + sigB (sched W k (k + 14)))
theorem sched_at (W : Nat → BitVec 32) (j : Nat) (h : 16 ≤ j) :
    upd (sched W (j - 16)) j (sched W (j - 16) (j - 16) + sigA (sched W (j - 16) (j - 15)) + sched W (j - 16) (j - 7) + sigB (sched W (j - 16) (j - 2))) = sched W (j + 1 - 16) := by
  obtain ⟨k, rfl⟩ : ∃ k, j = 16 + k := ⟨j - 16, by omega⟩
  rw [show 16 + k + 1 - 16 = k + 1 by omega, show 16 + k - 16 = k by omega, show 16 + k - 15 = k + 1 by omega, show 16 + k - 7 = k + 9 by omega, show 16 + k - 2 = k + 14 by omega]
  rfl
def st8 (a b c d e f g h : BitVec 32) : Nat → BitVec 32 := fun i => if i = 0 then a else if i = 1 then b else if i = 2 then c else if i = 3 then d else if i = 4 then e else if i = 5 then f else if i = 6 then g else if i = 7 then h else 0
theorem row8 (a b c d e f g h : BitVec 32) : row32 8 (st8 a b c d e f g h) = #[.int .u32 (val a), .int .u32 (val b), .int .u32 (val c), .int .u32 (val d), .int .u32 (val e), .int .u32 (val f), .int .u32 (val g), .int .u32 (val h)] := rfl
def stepOne (v : Nat → BitVec 32) (k w : BitVec 32) : BitVec 32 := v 7 + (rotr (v 4) 6 ^^^ rotr (v 4) 11 ^^^ rotr (v 4) 25) + (v 4 &&& v 5 ^^^ ~~~(v 4) &&& v 6) + k + w
def stepTwo (v : Nat → BitVec 32) : BitVec 32 := (rotr (v 0) 2 ^^^ rotr (v 0) 13 ^^^ rotr (v 0) 22) + (v 0 &&& v 1 ^^^ v 0 &&& v 2 ^^^ v 1 &&& v 2)
/-- A round. -/
def shaStep (v : Nat → BitVec 32) (k w : BitVec 32) : Nat → BitVec 32 :=
  st8 (stepOne v k w + stepTwo v) (v 0) (v 1) (v 2) (v 3 + stepOne v k w) (v 4) (v 5) (v 6)
def shaRounds (v W : Nat → BitVec 32) : Nat → (Nat → BitVec 32)
  | 0 => v
  | k + 1 => shaStep (shaRounds v W k) (K256 k) (W k)
/-- The first k words of the sum. -/
def addTo (H v : Nat → BitVec 32) (k : Nat) : Nat → BitVec 32 := fun j => if j < k then H j + v j else H j
theorem addTo_succ (H v : Nat → BitVec 32) (k : Nat) : upd (addTo H v k) k (addTo H v k k + v k) = addTo H v (k + 1) := by
  funext j
  unfold upd addTo
  by_cases h : j = k
  · subst h; rw [if_pos rfl, if_neg (Nat.lt_irrefl _), if_pos (by omega)]
  · rw [if_neg h]
    by_cases h2 : j < k
    · rw [if_pos h2, if_pos (by omega)]
    · rw [if_neg h2, if_neg (by omega)]
/-- 64 bytes are taken in. -/
def shaBlock (H : Nat → BitVec 32) (l : List UInt8) : Nat → BitVec 32 := addTo H (shaRounds H (sched (wordsTo l 16) 48) 64) 8

end Go.Proofs.YtcbcknfhblamfaaGreatDoor
