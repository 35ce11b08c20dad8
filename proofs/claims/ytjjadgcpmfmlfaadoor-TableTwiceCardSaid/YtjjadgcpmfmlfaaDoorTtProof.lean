/- TableTwice returns true at every input: the tied card. The condition: the listed variables hold what the program's text lays. -/
import Derived.Test.YtjjadgcpmfmlfaaDoorTt
import Derived.Test.YtjjadgcpmfmlfaaDoorArgE
import Derived.Test.YtjjadgcpmfmlfaaDoorLaid
import Derived.Test.YtjjadgcpmfmlfaaDoorCards
import Derived.Test.YtjjadgcpmfmlfaaDoorTie
import Derived.Test.YtjjadgcpmfmlfaaDoorTied
import Derived.Test.YtjjadgcpmfmlfaaDoorTied2
import Derived.ProofKit
import Derived.ShutString
import Derived.OpenShut
import Derived.Lay
import Derived.Stop.Joined
import Derived.SevenTiedAt
namespace Go.Proofs.YtjjadgcpmfmlfaaDoor
open Go.ChangeShapes Go.WideShapes Go.ChangeAt Go.RowKit
open Go.ChangeMaps (open_string shut_string)

set_option maxRecDepth 100000 in
theorem tableTwice_lifted (os : Os) (started : os.Started) (H : Type) (enc : TypeId × Value → H) :
    ReturnsInHanded {} Tryd.checked os 12 .any (fun w args => (Rows.tableTwiceSpec.pre enc Tryd.prog Tryd.f12 Rows.tableTwiceRow.domain false w args ∧ laidMetH Tryd.prog Rows.tableTwiceRow.laid w) ∧ sizedMet enc Tryd.prog Tryd.f12 (OpenSpec.ofChange Rows.tableTwiceSpec) false w args)
      (Rows.tableTwiceSpec.post enc Tryd.prog Tryd.f12 false true false false) := by
  refine returnsInHanded_of_change_and (C := Tryd.checked) (X := fun w _ => laidMetH Tryd.prog Rows.tableTwiceRow.laid w) (fun _ _ _ hh h => h.of_heap hh) own started (by kernel_rfl) Tryd.func12
    (ChangeSpec.witness_shaped (enc := enc) (C := Tryd.checked) (os := os) (X := fun w _ => laidMetH Tryd.prog Rows.tableTwiceRow.laid w) false (World.laidAll Tryd.prog os Rows.tableTwiceRow.laid) #[.slice none 0 0, .agg #[.int .i64 0, .string ⟨#[]⟩, .string ⟨#[]⟩, .string ⟨#[]⟩, .string ⟨#[]⟩]] 8 (World.laidAll_os _ _ _)
      (World.shaped_of_ZipB (by kernel_rfl) (by kernel_rfl)) (by kernel_rfl) (by kernel_rfl) (by kernel_rfl)
      (by rw [MakeChecks.laidMetH_plain _ _ _ (by kernel_rfl)]; exact laidMet_laidAll _ (by kernel_rfl) (by kernel_rfl))) ?_
  intro W base args ds gs before hval0 hW hcnd _ hL _
  have hval : ∀ (j : Nat) t v, Tryd.f12.params[j]? = some t → args[j]? = some v → Value.okWide Tryd.prog W .any base t v := hval0
  have hW' := hW
  obtain ⟨p, q, hA0, hV, rfl, hfz, hnd⟩ := hW
  have hA : DataW.TrodAll enc Tryd.prog W 0 (fun _ => true) true Tryd.f12.params.toList args.toList ds p := hA0
  rw [Tryd.params12] at hA hval
  obtain ⟨v0, vs0, d0, ds0, p0, q0, hargs, rfl, rfl, h0, r0⟩ := trodAll_cons hA
  obtain ⟨v1, vs1, d1, ds1, p1, q1, rfl, rfl, rfl, h1, r1⟩ := trodAll_cons r0
  obtain ⟨rfl, rfl, rfl⟩ := trodAll_nil r1
  obtain rfl : args = #[v0, v1] := by cases args; simp_all
  obtain ⟨rfl, rfl⟩ := trodVars_none hV
  obtain ⟨a0, l0, c0, rfl⟩ := okWide_slice Tryd.underlying71 (hval 0 71 v0 rfl rfl)
  obtain ⟨t0, rfl, x0, y0, z0, -⟩ := evs_of_Trod h0
  obtain ⟨a1, rfl⟩ := open_ev (hval 1 54 v1 rfl rfl) h1
  clear hA0 hval0
  rw [MakeChecks.laidMetH_plain _ _ _ (by kernel_rfl)] at hL
  simp only [List.append_nil] at hW'
  refine (twice_law a0 c0 t0 a1 W (Nat.le_trans y0 (Nat.le_trans z0 (by decide))) y0 x0).mono fun e W' ⟨he, hg⟩ => ?_
  subst he
  exact ⟨_, rfl, _, _, _, [], _, [], hW', trodAll_cons_mk (shut_bool Tryd.underlying4 _) trodAll_mk0,
    (trodAll_cons_mk (Below.trod laidOut (by kernel_rfl) (of_decide_eq_true (by kernel_rfl)) h0 (ext_iff.1 hg) (fun x hx => by simpa using hW'.lt x (by simp [hx]))) (trodAll_cons_mk (Below.trod laidOut (by kernel_rfl) (of_decide_eq_true (by kernel_rfl)) h1 (ext_iff.1 hg) (fun x hx => by simpa using hW'.lt x (by simp [hx]))) trodAll_mk0)),
    rfl, (ext_iff.1 hg).frame _, fun h => by cases h⟩

theorem tableTwice_row : Rows.TableTwiceSaid :=
  OpenClaim.holds_of_wide 12 Tryd.f12 rfl rfl rfl rfl rfl rfl rfl ⟨rfl, rfl, rfl, rfl, rfl⟩ rfl rfl rfl rfl rfl (by kernel_rfl) Tryd.func12 (by kernel_rfl)
    (of_decide_eq_true (by kernel_rfl)) (by unfold Func.isWrapper; rw [if_neg (of_decide_eq_false (by kernel_rfl))]; exact ⟨rfl, rfl⟩)
    (fun os started H enc _ => tableTwice_lifted os started H enc)
theorem tableTwice_holds : Rows.TableTwiceCardSaid :=
  Claim7.holds_tied_plain_at .later [] [.data, .pinned] true Rows.tableTwiceCard.stood.harness Rows.tableTwiceCard.stood.looks tableTwice_row (fun _ h => by cases h) (by kernel_rfl) (fun _ h => by cases h) tableTwice_row_tie rfl ⟨rfl, rfl⟩ (by kernel_rfl) rfl
    (fun f fn hf hfn => by
      obtain rfl : f = 12 := Option.some.inj ((show Tryd.prog.funcNamed "oubliette/oubliettekeep.TableTwice" = some 12 by kernel_rfl).symm.trans hf) |>.symm
      obtain rfl : fn = Tryd.f12 := (Option.some.inj (Tryd.func12.symm.trans hfn)).symm
      exact ⟨by kernel_rfl, fun j t ht => by
        rw [Tryd.params12] at ht
        have hm : t ∈ [71, 54] := by simpa using Array.mem_of_getElem? ht
        have hall : ([71, 54].all fun u => !Tryd.prog.wantsStandIn u) = true := by kernel_rfl
        exact (show Tryd.prog.wantsStandIn t = false by simpa using List.all_eq_true.1 hall t hm)⟩)
    (by kernel_rfl)
#print axioms tableTwice_holds
end Go.Proofs.YtjjadgcpmfmlfaaDoor
