/- oubliettelaw.StreamBlocks (the walk). -/
import Derived.Test.YtnmpchojhbmbmaaGreatDoorProg
import Derived.Test.YtnmpchojhbmbmaaGreatDoorG17
import Derived.Test.YtnmpchojhbmbmaaGreatDoorTell
namespace Go.Proofs.YtnmpchojhbmbmaaGreatDoor
open Go.RowKit

/-- An Errno as an error. -/
def errOf (e : Int) : Value := if e = 0 then .nilIface else errV e
theorem errOf_is (e : Int) : IsErr (errOf e) := by
  unfold errOf; split
  · exact .nil
  · exact .no e
theorem errOf_num (e : Int) : (errNum (errOf e) == e) = true := by
  unfold errOf; split
  · rename_i h; rw [h]; rfl
  · exact beq_self_eq_true e
def okB (key nonce : ByteArray) (n : Int) : Prop := key.size = 32 ∧ nonce.size = 12 ∧ 0 ≤ n ∧ n < 4294967296
instance (key nonce : ByteArray) (n : Int) : Decidable (okB key nonce n) := by unfold okB; exact inferInstance
/-- What a block is, and what is wrong. -/
def blockR (key : ByteArray) (n : Int) (nonce : ByteArray) : List UInt8 × Int := if okB key nonce n then (block key.data.toList n.toNat nonce.data.toList, 0) else ([], 1)
/-- What a text is together with blocks, and what is wrong. -/
def xorR (key nonce s : ByteArray) : List UInt8 × Int := if key.size = 32 ∧ nonce.size = 12 then (xorB key.data.toList nonce.data.toList s.data.toList, 0) else ([], 1)
end Go.Proofs.YtnmpchojhbmbmaaGreatDoor
