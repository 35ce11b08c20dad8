/- sort.siftDown_func and sort.heapSort_func at rows (the walks). -/
import Derived.Test.YtcbcknfhblamfaaGreatDoorProg
import Derived.Test.YtcbcknfhblamfaaGreatDoorG1
import Derived.Shelf.GgSortFunc.InsertionK
import Derived.Sort.WalkB2
import Derived.Sort.WalkB3
namespace Go.Proofs.YtcbcknfhblamfaaGreatDoor
open Go.RowKit Go.Shelf Go.Sort

variable {P : Program} {ρ : Ren} {lt : Cell → Cell → Bool} {g sf : Nat} {lb sb : Array Value} {w0 : World} {gb N : Nat}
set_option maxRecDepth 100000 in
set_option maxHeartbeats 4000000 in
theorem sift_any (L : LaysGg.n34 P ρ) (C : SrtC P lt g sf lb sb w0 gb N) (lo hi F : Nat) (d : Array Cell) (w : World) (h : SrtI w0 gb N d w) (hlo : lo ≤ hi) (hb : F + hi ≤ N) :
    Calls P (ρ.f 34) #[.agg #[.func (.func g) #[] lb, .func (.func sf) #[] sb], .int .i64 lo, .int .i64 hi, .int .i64 F] w fun e w' => e = .returned (.tuple #[]) ∧ SrtI w0 gb N (siftDown lt hi F lo d) w' ∧ w.grownBy w' (some gb) := by
  have mixed := L.mixed; have t0 := L.t0; have a0 := L.a0; have z0 := L.z0; have v0 := L.v0; have t3 := L.t3; have a3 := L.a3; have z3 := L.z3; have v3 := L.v3; have t4 := L.t4; have a4 := L.a4; have z4 := L.z4; have v4 := L.v4; have t26 := L.t26; have a26 := L.a26; have z26 := L.z26; have v26 := L.v26; have t37 := L.t37; have a37 := L.a37; have z37 := L.z37; have v37 := L.v37; have t44 := L.t44; have a44 := L.a44; have z44 := L.z44; have v44 := L.v44
  have u44 := run_underlying L.t44
  have eg := C.enter
  have CC := Lib.hid C
  have few := C.few
  have HI := Lib.hid h
  clear C h
  go_enter L.f34, BodyGg.n34_ntmps ρ
  go_wp2_with fail
  have X0 := Lib.hid (SrtX.enter (ρ := ρ) (g := g) (sf := sf) (lb := lb) (sb := sb) HI.out CC.out.lo)
  clear HI
  generalize w.alloc (.cells #[.func (.func g) #[] lb, .func (.func sf) #[] sb] (ρ.t 44)) = wa at X0 ⊢
  generalize w.heap.size = db at X0 ⊢
  go_loopw [8] (fun vi wr => ∃ (r : Nat) (dk : Array Cell), vi = .int .i64 r ∧ r ≤ hi ∧ Hid (SrtX ρ g sf lb sb w0 gb N w db dk wr) ∧ Hid (siftDown lt hi F r dk = siftDown lt hi F lo d)) (fun vi _ => hi - (intOf vi).toNat)
  case atStart => exact ⟨lo, d, rfl, hlo, X0, Lib.hid rfl⟩
  case round =>
    clear X0
    obtain ⟨r, dk, rfl, hr, X, HO⟩ := hrel
    by_cases he : hi ≤ 2 * r + 1
    · have he' : (hi : Int) ≤ 2 * (r : Int) + 1 := by omega
      go_wp2_with fail
      go_end0
      exact ⟨rfl, by rw [← HO.out, sd_end lt dk he]; exact X.out.i, X.out.k⟩
    · have he' : ¬ (hi : Int) ≤ 2 * (r : Int) + 1 := by omega
      by_cases hc : 2 * r + 2 < hi
      · have hc' : 2 * (r : Int) + 1 + 1 < hi := by omega
        obtain ⟨c0, c1, hdb⟩ := X.out.cells
        cases hlv : lt dk[F + (2 * r + 1)]! dk[F + (2 * r + 1) + 1]! with
        | true =>
          have HL := Lib.hid hlv
          have X1 := X
          clear X hlv
          go_wp2_with (go_at_fn g; refine (X1.out.lt_ CC.out HL.out _ _ (by omega) (by omega) (by omega) (by omega)).mono ?_; clear c0 c1 hdb X1; rintro _ w2 ⟨rfl, hX⟩; obtain ⟨c0, c1, hdb⟩ := hX.cells; have X2 := Lib.hid hX; clear hX)
          cases hl2 : lt dk[F + r]! dk[F + (2 * r + 1 + 1)]! with
          | true =>
            refine (X2.out.lt_ CC.out hl2 _ _ (by omega) (by omega) (by omega) (by omega)).mono ?_
            clear c0 c1 hdb
            rintro _ w3 ⟨rfl, hX⟩
            obtain ⟨c0, c1, hdb⟩ := hX.cells
            have X3 := Lib.hid hX
            clear hX X2
            have H2 := Lib.hid hl2
            clear hl2
            go_wp2_with fail
            obtain ⟨w4, hs, hX⟩ := X3.out.sw CC.out (F + r) (F + (2 * r + 1 + 1)) ((F : Int) + r) ((F : Int) + (2 * (r : Int) + 1 + 1)) (by omega) (by omega) (by omega) (by omega)
            rw [hs, Oper.upon_value]
            have X4 := Lib.hid hX
            clear hX hs X3 c0 c1 hdb
            go_wp2_with fail
            go_roundw
            case rel => exact ⟨(2 * r + 1 + 1), _, by go_num, by omega, X4, Lib.hid (by rw [← HO.out, sd_right_go lt dk hc HL.out H2.out])⟩
            case measure => simp [intOf]; omega
          | false =>
            refine (X2.out.lt_ CC.out hl2 _ _ (by omega) (by omega) (by omega) (by omega)).mono ?_
            clear c0 c1 hdb
            rintro _ w3 ⟨rfl, hX⟩
            have X3 := Lib.hid hX
            clear hX X2
            have H2 := Lib.hid hl2
            clear hl2
            go_wp2_with fail
            (try simp only [Exit.inBlock, Exit.then]); refine bodyPost_ret (results_none rfl _ _ _) rfl ?_
            exact ⟨rfl, by rw [← HO.out, sd_right_stop lt dk hc HL.out H2.out]; exact X3.out.i, X3.out.k⟩
        | false =>
          have HL := Lib.hid hlv
          have X1 := X
          clear X hlv
          go_wp2_with (go_at_fn g; refine (X1.out.lt_ CC.out HL.out _ _ (by omega) (by omega) (by omega) (by omega)).mono ?_; clear c0 c1 hdb X1; rintro _ w2 ⟨rfl, hX⟩; obtain ⟨c0, c1, hdb⟩ := hX.cells; have X2 := Lib.hid hX; clear hX)
          cases hl2 : lt dk[F + r]! dk[F + (2 * r + 1)]! with
          | true =>
            refine (X2.out.lt_ CC.out hl2 _ _ (by omega) (by omega) (by omega) (by omega)).mono ?_
            clear c0 c1 hdb
            rintro _ w3 ⟨rfl, hX⟩
            obtain ⟨c0, c1, hdb⟩ := hX.cells
            have X3 := Lib.hid hX
            clear hX X2
            have H2 := Lib.hid hl2
            clear hl2
            go_wp2_with fail
            obtain ⟨w4, hs, hX⟩ := X3.out.sw CC.out (F + r) (F + (2 * r + 1)) ((F : Int) + r) ((F : Int) + (2 * (r : Int) + 1)) (by omega) (by omega) (by omega) (by omega)
            rw [hs, Oper.upon_value]
            have X4 := Lib.hid hX
            clear hX hs X3 c0 c1 hdb
            go_wp2_with fail
            go_roundw
            case rel => exact ⟨(2 * r + 1), _, by go_num, by omega, X4, Lib.hid (by rw [← HO.out, sd_left_go lt dk (by omega) (fun _ => HL.out) H2.out])⟩
            case measure => simp [intOf]; omega
          | false =>
            refine (X2.out.lt_ CC.out hl2 _ _ (by omega) (by omega) (by omega) (by omega)).mono ?_
            clear c0 c1 hdb
            rintro _ w3 ⟨rfl, hX⟩
            have X3 := Lib.hid hX
            clear hX X2
            have H2 := Lib.hid hl2
            clear hl2
            go_wp2_with fail
            (try simp only [Exit.inBlock, Exit.then]); refine bodyPost_ret (results_none rfl _ _ _) rfl ?_
            exact ⟨rfl, by rw [← HO.out, sd_left_stop lt dk (by omega) (fun _ => HL.out) H2.out]; exact X3.out.i, X3.out.k⟩
      · have hc' : ¬ 2 * (r : Int) + 1 + 1 < hi := by omega
        obtain ⟨c0, c1, hdb⟩ := X.out.cells
        have X2 := X
        clear X
        go_wp2_with fail
        cases hl2 : lt dk[F + r]! dk[F + (2 * r + 1)]! with
        | true =>
          refine (X2.out.lt_ CC.out hl2 _ _ (by omega) (by omega) (by omega) (by omega)).mono ?_
          clear c0 c1 hdb
          rintro _ w3 ⟨rfl, hX⟩
          obtain ⟨c0, c1, hdb⟩ := hX.cells
          have X3 := Lib.hid hX
          clear hX X2
          have H2 := Lib.hid hl2
          clear hl2
          go_wp2_with fail
          obtain ⟨w4, hs, hX⟩ := X3.out.sw CC.out (F + r) (F + (2 * r + 1)) ((F : Int) + r) ((F : Int) + (2 * (r : Int) + 1)) (by omega) (by omega) (by omega) (by omega)
          rw [hs, Oper.upon_value]
          have X4 := Lib.hid hX
          clear hX hs X3 c0 c1 hdb
          go_wp2_with fail
          go_roundw
          case rel => exact ⟨(2 * r + 1), _, by go_num, by omega, X4, Lib.hid (by rw [← HO.out, sd_left_go lt dk (by omega) (fun h => absurd h hc) H2.out])⟩
          case measure => simp [intOf]; omega
        | false =>
          refine (X2.out.lt_ CC.out hl2 _ _ (by omega) (by omega) (by omega) (by omega)).mono ?_
          clear c0 c1 hdb
          rintro _ w3 ⟨rfl, hX⟩
          have X3 := Lib.hid hX
          clear hX X2
          have H2 := Lib.hid hl2
          clear hl2
          go_wp2_with fail
          (try simp only [Exit.inBlock, Exit.then]); refine bodyPost_ret (results_none rfl _ _ _) rfl ?_
          exact ⟨rfl, by rw [← HO.out, sd_left_stop lt dk (by omega) (fun h => absurd h hc) H2.out]; exact X3.out.i, X3.out.k⟩
end Go.Proofs.YtcbcknfhblamfaaGreatDoor
