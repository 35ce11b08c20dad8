/- oubliettekeep.pick. -/
import Derived.Test.YtafdigdopeahdaaGreatDoorProg
import Derived.Test.YtafdigdopeahdaaGreatDoorWords
namespace Go.Proofs.YtafdigdopeahdaaGreatDoor
open Go.RowKit
/-- A number below n, of whatever a. -/
def pickN (a : Int) (n : Nat) : Nat := (IntKind.u64.wrap a).toNat % n
theorem pickN_lt (a : Int) (n : Nat) (h : 0 < n) : pickN a n < n := Nat.mod_lt _ h

theorem wrapU_nonneg (a : Int) : 0 ≤ IntKind.u64.wrap a := by
  rw [IntKind.wrap_u64]; exact Int.emod_nonneg _ (by decide)
theorem pickN_walk (a : Int) (n : Nat) (h0 : 0 < n) (h1 : n ≤ 1048576) : wrap64 ((IntKind.u64.wrap a).tmod n) = (pickN a n : Int) := by
  have h := wrapU_nonneg a
  have hlt := pickN_lt a n h0
  obtain ⟨u, hu⟩ := Int.eq_ofNat_of_zero_le h
  unfold pickN at hlt ⊢
  rw [hu] at hlt ⊢
  simp only [Int.toNat_natCast] at hlt ⊢
  rw [show ((u : Int).tmod (n : Int)) = ((u % n : Nat) : Int) from rfl, IntWalk.wrap64_in]
  omega

set_option maxHeartbeats 400000 in
theorem pick_any (a : Int) (n : Nat) (w : World) (h0 : 0 < n) (h1 : n ≤ 1048576) (vn : Int) (en : vn = n) :
    Calls Tryz.prog 23 #[.int .i64 a, .int .i64 vn] w fun r w' => r = .returned (.int .i64 (pickN a n)) ∧ ∃ x, w' = ext w x := by
  subst en
  go_enter Tryz.func23, Tryz.ntmps23
  go_wp2
  go_ret
  exact ⟨by rw [← pickN_walk a n h0 h1]; rfl, ext_refl _⟩
end Go.Proofs.YtafdigdopeahdaaGreatDoor
