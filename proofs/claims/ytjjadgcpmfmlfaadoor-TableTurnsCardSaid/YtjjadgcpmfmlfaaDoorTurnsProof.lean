/- TableTurns returns true at every input: the tied card. The condition: the listed variables hold what the program's text lays. -/
import Derived.Test.YtjjadgcpmfmlfaaDoorTurns
import Derived.Test.YtjjadgcpmfmlfaaDoorArgE
import Derived.Test.YtjjadgcpmfmlfaaDoorBools
import Derived.Test.YtjjadgcpmfmlfaaDoorLaid
import Derived.Test.YtjjadgcpmfmlfaaDoorCards
import Derived.Test.YtjjadgcpmfmlfaaDoorTie
import Derived.Test.YtjjadgcpmfmlfaaDoorTied
import Derived.ProofKit
import Derived.ShutString
import Derived.OpenShut
import Derived.Lay
import Derived.Stop.Joined
import Derived.SevenTiedAt
namespace Go.Proofs.YtjjadgcpmfmlfaaDoor
open Go.ChangeShapes Go.WideShapes Go.ChangeAt Go.RowKit
open Go.ChangeMaps (open_string shut_string)

set_option maxRecDepth 100000 in
theorem tableTurns_lifted (os : Os) (started : os.Started) (H : Type) (enc : TypeId × Value → H) :
    ReturnsInHanded {} Tryd.checked os 11 .any (fun w args => (Rows.tableTurnsSpec.pre enc Tryd.prog Tryd.f11 Rows.tableTurnsRow.domain false w args ∧ laidMetH Tryd.prog Rows.tableTurnsRow.laid w) ∧ sizedMet enc Tryd.prog Tryd.f11 (OpenSpec.ofChange Rows.tableTurnsSpec) false w args)
      (Rows.tableTurnsSpec.post enc Tryd.prog Tryd.f11 false true false false) := by
  refine returnsInHanded_of_change_and (C := Tryd.checked) (X := fun w _ => laidMetH Tryd.prog Rows.tableTurnsRow.laid w) (fun _ _ _ hh h => h.of_heap hh) own started (by kernel_rfl) Tryd.func11
    (ChangeSpec.witness_shaped (enc := enc) (C := Tryd.checked) (os := os) (X := fun w _ => laidMetH Tryd.prog Rows.tableTurnsRow.laid w) false (World.laidAll Tryd.prog os Rows.tableTurnsRow.laid) #[.slice none 0 0, .slice none 0 0, .slice none 0 0] 8 (World.laidAll_os _ _ _)
      (World.shaped_of_ZipB (by kernel_rfl) (by kernel_rfl)) (by kernel_rfl) (by kernel_rfl) (by kernel_rfl)
      (by rw [MakeChecks.laidMetH_plain _ _ _ (by kernel_rfl)]; exact laidMet_laidAll _ (by kernel_rfl) (by kernel_rfl))) ?_
  intro W base args ds gs before hval0 hW hcnd _ hL _
  have hval : ∀ (j : Nat) t v, Tryd.f11.params[j]? = some t → args[j]? = some v → Value.okWide Tryd.prog W .any base t v := hval0
  have hW' := hW
  obtain ⟨p, q, hA0, hV, rfl, hfz, hnd⟩ := hW
  have hA : DataW.TrodAll enc Tryd.prog W 0 (fun _ => true) true Tryd.f11.params.toList args.toList ds p := hA0
  rw [Tryd.params11] at hA hval
  obtain ⟨v0, vs0, d0, ds0, p0, q0, hargs, rfl, rfl, h0, r0⟩ := trodAll_cons hA
  obtain ⟨v1, vs1, d1, ds1, p1, q1, rfl, rfl, rfl, h1, r1⟩ := trodAll_cons r0
  obtain ⟨v2, vs2, d2, ds2, p2, q2, rfl, rfl, rfl, h2, r2⟩ := trodAll_cons r1
  obtain ⟨rfl, rfl, rfl⟩ := trodAll_nil r2
  obtain rfl : args = #[v0, v1, v2] := by cases args; simp_all
  obtain ⟨rfl, rfl⟩ := trodVars_none hV
  obtain ⟨a0, l0, c0, rfl⟩ := okWide_slice Tryd.underlying71 (hval 0 71 v0 rfl rfl)
  obtain ⟨t0, rfl, x0, y0, z0, -⟩ := evs_of_Trod h0
  obtain ⟨a1, l1, c1, rfl⟩ := okWide_slice Tryd.underlying71 (hval 1 71 v1 rfl rfl)
  obtain ⟨t1, rfl, x1, y1, z1, -⟩ := evs_of_Trod h1
  obtain ⟨a2, l2, c2, rfl⟩ := okWide_slice Tryd.underlying88 (hval 2 88 v2 rfl rfl)
  obtain ⟨t2, rfl, x2, y2, z2⟩ := bools_of_Trod h2
  clear hA0 hval0
  rw [MakeChecks.laidMetH_plain _ _ _ (by kernel_rfl)] at hL
  simp only [List.append_nil] at hW'
  refine (turns_law a0 c0 t0 a1 c1 t1 a2 c2 t2 W (Nat.le_trans y0 (Nat.le_trans z0 (by decide))) y0 x0 (Nat.le_trans y1 (Nat.le_trans z1 (by decide))) y1 x1 (Nat.le_trans y2 (Nat.le_trans z2 (by decide))) y2 x2).mono fun e W' ⟨he, hg⟩ => ?_
  subst he
  exact ⟨_, rfl, _, _, _, [], _, [], hW', trodAll_cons_mk (shut_bool Tryd.underlying4 _) trodAll_mk0,
    (trodAll_cons_mk (Below.trod laidOut (by kernel_rfl) (of_decide_eq_true (by kernel_rfl)) h0 (ext_iff.1 hg) (fun x hx => by simpa using hW'.lt x (by simp [hx]))) (trodAll_cons_mk (Below.trod laidOut (by kernel_rfl) (of_decide_eq_true (by kernel_rfl)) h1 (ext_iff.1 hg) (fun x hx => by simpa using hW'.lt x (by simp [hx]))) (trodAll_cons_mk (Below.trod laidOut (by kernel_rfl) (of_decide_eq_true (by kernel_rfl)) h2 (ext_iff.1 hg) (fun x hx => by simpa using hW'.lt x (by simp [hx]))) trodAll_mk0))),
    rfl, (ext_iff.1 hg).frame _, fun h => by cases h⟩

theorem tableTurns_row : Rows.TableTurnsSaid :=
  OpenClaim.holds_of_wide 11 Tryd.f11 rfl rfl rfl rfl rfl rfl rfl ⟨rfl, rfl, rfl, rfl, rfl⟩ rfl rfl rfl rfl rfl (by kernel_rfl) Tryd.func11 (by kernel_rfl)
    (of_decide_eq_true (by kernel_rfl)) (by unfold Func.isWrapper; rw [if_neg (of_decide_eq_false (by kernel_rfl))]; exact ⟨rfl, rfl⟩)
    (fun os started H enc _ => tableTurns_lifted os started H enc)
theorem tableTurns_holds : Rows.TableTurnsCardSaid :=
  Claim7.holds_tied_plain_at .later [] [.data, .pinned] true Rows.tableTurnsCard.stood.harness Rows.tableTurnsCard.stood.looks tableTurns_row (fun _ h => by cases h) (by kernel_rfl) (fun _ h => by cases h) tableTurns_row_tie rfl ⟨rfl, rfl⟩ (by kernel_rfl) rfl
    (fun f fn hf hfn => by
      obtain rfl : f = 11 := Option.some.inj ((show Tryd.prog.funcNamed "oubliette/oubliettekeep.TableTurns" = some 11 by kernel_rfl).symm.trans hf) |>.symm
      obtain rfl : fn = Tryd.f11 := (Option.some.inj (Tryd.func11.symm.trans hfn)).symm
      exact ⟨by kernel_rfl, fun j t ht => by
        rw [Tryd.params11] at ht
        have hm : t ∈ [71, 71, 88] := by simpa using Array.mem_of_getElem? ht
        have hall : ([71, 71, 88].all fun u => !Tryd.prog.wantsStandIn u) = true := by kernel_rfl
        exact (show Tryd.prog.wantsStandIn t = false by simpa using List.all_eq_true.1 hall t hm)⟩)
    (by kernel_rfl)
#print axioms tableTurns_holds
end Go.Proofs.YtjjadgcpmfmlfaaDoor
