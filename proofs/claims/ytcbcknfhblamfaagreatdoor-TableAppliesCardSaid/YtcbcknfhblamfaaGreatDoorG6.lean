/- sort.partitionEqual_func at rows (the walk). -/
import Derived.Test.YtcbcknfhblamfaaGreatDoorProg
import Derived.Test.YtcbcknfhblamfaaGreatDoorG1
import Derived.Test.YtcbcknfhblamfaaGreatDoorG5
import Derived.Shelf.GgSortFunc.InsertionK
import Derived.Deep.DeepCutAuto
import Derived.Deep.CutBlock
import Derived.Sort.LotC
namespace Go.Proofs.YtcbcknfhblamfaaGreatDoor
open Go.RowKit Go.Shelf Go.Sort

variable {P : Program} {ρ : Ren} {lt : Cell → Cell → Bool} {g sf : Nat} {lb sb : Array Value} {w0 : World} {gb N : Nat}
theorem eloop_end {d : Array Cell} {a i j i2 j2 : Nat} (hi : i2 = scanUp (fun x => !lt d[a]! x) d j i) (hj : j2 = scanDown (fun x => lt d[a]! x) d i2 j) (h : j2 < i2) : partEqLoop lt a i j d = (i2, d) := by
  rw [partEqLoop_eq, ← hi, ← hj, if_pos h]
theorem eloop_go {d : Array Cell} {a i j i2 j2 : Nat} (hi : i2 = scanUp (fun x => !lt d[a]! x) d j i) (hj : j2 = scanDown (fun x => lt d[a]! x) d i2 j) (h : ¬ j2 < i2) : partEqLoop lt a i j d = partEqLoop lt a (i2 + 1) (j2 - 1) (swp d i2 j2) := by
  rw [partEqLoop_eq, ← hi, ← hj, if_neg h]
set_option maxRecDepth 100000 in
set_option maxHeartbeats 8000000 in
theorem peq_any (L : LaysGg.n32 P ρ) (C : SrtC P lt g sf lb sb w0 gb N) (a b pivot : Nat) (d : Array Cell) (w : World) (h : SrtI w0 gb N d w) (hap : a ≤ pivot) (hpb : pivot < b) (hb : b ≤ N) :
    Calls P (ρ.f 32) #[.agg #[.func (.func g) #[] lb, .func (.func sf) #[] sb], .int .i64 a, .int .i64 b, .int .i64 pivot] w fun e w' => e = .returned (.int .i64 (partitionEqual lt d a b pivot).1) ∧ SrtI w0 gb N (partitionEqual lt d a b pivot).2 w' ∧ w.grownBy w' (some gb) := by
  have mixed := L.mixed; have t0 := L.t0; have a0 := L.a0; have z0 := L.z0; have v0 := L.v0; have t3 := L.t3; have a3 := L.a3; have z3 := L.z3; have v3 := L.v3; have t4 := L.t4; have a4 := L.a4; have z4 := L.z4; have v4 := L.v4; have t26 := L.t26; have a26 := L.a26; have z26 := L.z26; have v26 := L.v26; have t37 := L.t37; have a37 := L.a37; have z37 := L.z37; have v37 := L.v37; have t44 := L.t44; have a44 := L.a44; have z44 := L.z44; have v44 := L.v44
  have u44 := run_underlying L.t44
  have eg := C.enter
  have CC := Lib.hid C
  have few := C.few
  have HI := Lib.hid h
  clear C h
  go_enter L.f32, BodyGg.n32_ntmps ρ
  go_wp2_with fail
  have X0 := Lib.hid (SrtX.enter (ρ := ρ) (g := g) (sf := sf) (lb := lb) (sb := sb) HI.out CC.out.lo)
  clear HI
  generalize w.alloc (.cells #[.func (.func g) #[] lb, .func (.func sf) #[] sb] (ρ.t 44)) = wa at X0 ⊢
  generalize w.heap.size = db at X0 ⊢
  obtain ⟨c0, c1, hdb⟩ := X0.out.cells
  go_wp2_with fail
  obtain ⟨ws, hs, hX⟩ := X0.out.sw CC.out (a) (pivot) (a : Int) (pivot : Int) (by omega) (by omega) (by omega) (by omega)
  rw [hs, Oper.upon_value]
  have X1 := Lib.hid hX
  clear hX hs X0 c0 c1 hdb
  go_wp2_with fail
  go_loopw [9, 10] (fun vi vj wr => ∃ (i j : Nat) (dk : Array Cell), vi = .int .i64 i ∧ vj = .int .i64 j ∧ a < i ∧ i ≤ j + 2 ∧ j < b ∧ Hid (SrtX ρ g sf lb sb w0 gb N w db dk wr) ∧ Hid (partEqLoop lt a i j dk = partitionEqual lt d a b pivot)) (fun vi vj _ => (intOf vj).toNat + 1 - (intOf vi).toNat)
  case atStart => exact ⟨a + 1, b - 1, _, by go_num, by go_num, by omega, by omega, by omega, X1, Lib.hid rfl⟩
  case round =>
    clear X1
    obtain ⟨i, j, dk, rfl, rfl, hai, hij, hjb, X5, HL⟩ := hrel
    go_upto_block 2 with fail
    go_cut [9] (fun v wc => ∃ i3 : Nat, v = .int .i64 i3 ∧ (i ≤ i3 ∧ i3 ≤ j + 2) ∧ Hid (i3 = scanUp (fun x => !lt dk[a]! x) dk (j) (i)) ∧ Hid (SrtX ρ g sf lb sb w0 gb N w db dk wc))
    case first =>
      go_wp2_with fail
      go_loopw [9] (fun vi wr => ∃ k : Nat, vi = .int .i64 k ∧ (i ≤ k ∧ k ≤ j + 2) ∧ Hid (SrtX ρ g sf lb sb w0 gb N w db dk wr) ∧ Hid (scanUp (fun x => !lt dk[a]! x) dk (j) (k) = scanUp (fun x => !lt dk[a]! x) dk (j) (i))) (fun vi _ => j + 1 - (intOf vi).toNat)
      case atStart => exact ⟨i, by go_num, ⟨by omega, by omega⟩, X5, Lib.hid rfl⟩
      case round =>
        clear X5
        obtain ⟨k, rfl, hrng, X, HU⟩ := hrel
        by_cases htest : k ≤ j
        · have htest' : (k : Int) ≤ (j : Int) := by omega
          obtain ⟨c0, c1, hdb⟩ := X.out.cells
          cases hlv : lt dk[a]! dk[k]! with
          | false =>
            have HL := Lib.hid hlv
            have X1 := X
            clear hlv X
            go_wp2_with (go_at_fn g; refine (X1.out.lt_ CC.out HL.out _ _ rfl rfl (by omega) (by omega)).mono ?_; clear c0 c1 hdb X1; rintro _ w2 ⟨rfl, hX⟩; have X2 := Lib.hid hX; clear hX)
            go_roundw
            case rel => exact ⟨k + 1, by go_num, ⟨by omega, by omega⟩, X2, Lib.hid (by rw [← HU.out, su_go (fun x => !lt dk[a]! x) dk (j) k htest (by simp [HL.out])])⟩
            case measure => simp [intOf]; omega
          | true =>
            have HL := Lib.hid hlv
            have X1 := X
            clear hlv X
            go_wp2_with (go_at_fn g; refine (X1.out.lt_ CC.out HL.out _ _ rfl rfl (by omega) (by omega)).mono ?_; clear c0 c1 hdb X1; rintro _ w2 ⟨rfl, hX⟩; have X2 := Lib.hid hX; clear hX)
            go_meet
            case rel => exact ⟨k, rfl, hrng, Lib.hid (by rw [← HU.out, su_stop (fun x => !lt dk[a]! x) dk (j) k (fun h => by have := h.2; simp [HL.out] at this)]), X2⟩
        · have htest' : ¬ (k : Int) ≤ (j : Int) := by omega
          go_wp2_with fail
          go_meet
          case rel => exact ⟨k, rfl, hrng, Lib.hid (by rw [← HU.out, su_stop (fun x => !lt dk[a]! x) dk (j) k (fun h => htest h.1)]), X⟩
    case rest =>
      clear X5
      obtain ⟨i3, rfl, Hi3r, Hi3, X6⟩ := hcut
      go_upto_block 4 with fail
      go_cut [10] (fun v wc => ∃ j3 : Nat, v = .int .i64 j3 ∧ (j3 ≤ j ∧ i3 ≤ j3 + 2) ∧ Hid (j3 = scanDown (fun x => lt dk[a]! x) dk (i3) (j)) ∧ Hid (SrtX ρ g sf lb sb w0 gb N w db dk wc))
      case first =>
        go_wp2_with fail
        go_loopw [10] (fun vi wr => ∃ k : Nat, vi = .int .i64 k ∧ (k ≤ j ∧ i3 ≤ k + 2) ∧ Hid (SrtX ρ g sf lb sb w0 gb N w db dk wr) ∧ Hid (scanDown (fun x => lt dk[a]! x) dk (i3) (k) = scanDown (fun x => lt dk[a]! x) dk (i3) (j))) (fun vi _ => (intOf vi).toNat)
        case atStart => exact ⟨j, by go_num, ⟨by omega, by omega⟩, X6, Lib.hid rfl⟩
        case round =>
          clear X6
          obtain ⟨k, rfl, hrng, X, HU⟩ := hrel
          by_cases htest : i3 ≤ k
          · have htest' : (i3 : Int) ≤ (k : Int) := by omega
            obtain ⟨c0, c1, hdb⟩ := X.out.cells
            cases hlv : lt dk[a]! dk[k]! with
            | true =>
              have HL := Lib.hid hlv
              have X1 := X
              clear hlv X
              go_wp2_with (go_at_fn g; refine (X1.out.lt_ CC.out HL.out _ _ rfl rfl (by omega) (by omega)).mono ?_; clear c0 c1 hdb X1; rintro _ w2 ⟨rfl, hX⟩; have X2 := Lib.hid hX; clear hX)
              go_roundw
              case rel => exact ⟨k - 1, by go_num, ⟨by omega, by omega⟩, X2, Lib.hid (by rw [← HU.out, sdn_go (fun x => lt dk[a]! x) dk (i3) k (by omega) htest (by simp [HL.out])])⟩
              case measure => simp [intOf]; omega
            | false =>
              have HL := Lib.hid hlv
              have X1 := X
              clear hlv X
              go_wp2_with (go_at_fn g; refine (X1.out.lt_ CC.out HL.out _ _ rfl rfl (by omega) (by omega)).mono ?_; clear c0 c1 hdb X1; rintro _ w2 ⟨rfl, hX⟩; have X2 := Lib.hid hX; clear hX)
              go_meet
              case rel => exact ⟨k, rfl, hrng, Lib.hid (by rw [← HU.out, sdn_stop (fun x => lt dk[a]! x) dk (i3) k (by omega) (fun h => by have := h.2; simp [HL.out] at this)]), X2⟩
          · have htest' : ¬ (i3 : Int) ≤ (k : Int) := by omega
            go_wp2_with fail
            go_meet
            case rel => exact ⟨k, rfl, hrng, Lib.hid (by rw [← HU.out, sdn_stop (fun x => lt dk[a]! x) dk (i3) k (by omega) (fun h => htest h.1)]), X⟩
      case rest =>
        clear X6
        obtain ⟨j3, rfl, Hj3r, Hj3, X7⟩ := hcut
        obtain ⟨c0, c1, hdb⟩ := X7.out.cells
        by_cases hg2 : j3 < i3
        · have hg2' : (j3 : Int) < i3 := by omega
          go_wp2_with fail
          go_ret
          rw [← HL.out, eloop_end Hi3.out Hj3.out hg2]
          exact ⟨rfl, X7.out.i, X7.out.k⟩
        · have hg2' : ¬ (j3 : Int) < i3 := by omega
          go_wp2_with fail
          obtain ⟨ws, hs, hX⟩ := X7.out.sw CC.out (i3) (j3) (i3 : Int) (j3 : Int) (by omega) (by omega) (by omega) (by omega)
          rw [hs, Oper.upon_value]
          have X8 := Lib.hid hX
          clear hX hs X7 c0 c1 hdb
          go_wp2_with fail
          go_roundw
          case rel => exact ⟨i3 + 1, j3 - 1, _, by go_num, by go_num, by omega, by omega, by omega, X8, Lib.hid (by rw [← HL.out, eloop_go Hi3.out Hj3.out hg2])⟩
          case measure => simp [intOf]; omega
end Go.Proofs.YtcbcknfhblamfaaGreatDoor
