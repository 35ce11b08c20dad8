/- sort.partition_func at rows (the walk). -/
import Derived.Test.YtcbcknfhblamfaaGreatDoorProg
import Derived.Test.YtcbcknfhblamfaaGreatDoorG1
import Derived.Shelf.GgSortFunc.InsertionK
import Derived.Deep.DeepCutAuto
import Derived.Deep.CutBlock
import Derived.Sort.LotC
namespace Go.Proofs.YtcbcknfhblamfaaGreatDoor
open Go.RowKit Go.Shelf Go.Sort

variable {P : Program} {ρ : Ren} {lt : Cell → Cell → Bool} {g sf : Nat} {lb sb : Array Value} {w0 : World} {gb N : Nat}
theorem su_go (p : Cell → Bool) (d : Array Cell) (j i : Nat) (h : i ≤ j) (hp : p d[i]! = true) : scanUp p d j i = scanUp p d j (i + 1) := by
  rw [scanUp, if_pos (by simp [h, hp])]
theorem su_stop (p : Cell → Bool) (d : Array Cell) (j i : Nat) (h : ¬ (i ≤ j ∧ p d[i]! = true)) : scanUp p d j i = i := by
  rw [scanUp, if_neg (by simpa using h)]
theorem sdn_go (p : Cell → Bool) (d : Array Cell) (i j : Nat) (h1 : 1 ≤ j) (h : i ≤ j) (hp : p d[j]! = true) : scanDown p d i j = scanDown p d i (j - 1) := by
  obtain ⟨k, rfl⟩ : ∃ k, j = k + 1 := ⟨j - 1, by omega⟩
  rw [scanDown, if_pos (by simp [h, hp])]; rfl
theorem sdn_stop (p : Cell → Bool) (d : Array Cell) (i j : Nat) (_ : 1 ≤ i) (h : ¬ (i ≤ j ∧ p d[j]! = true)) : scanDown p d i j = j := by
  cases j with
  | zero => rfl
  | succ k => rw [scanDown, if_neg (by simpa using h)]
theorem part_first {d : Array Cell} {a b pivot i2 j2 : Nat} (hi : i2 = scanUp (fun x => lt x (swp d a pivot)[a]!) (swp d a pivot) (b - 1) (a + 1)) (hj : j2 = scanDown (fun x => !lt x (swp d a pivot)[a]!) (swp d a pivot) i2 (b - 1)) (h : j2 < i2) :
    partition lt d a b pivot = (j2, true, swp (swp d a pivot) j2 a) := by
  unfold partition
  simp only []
  rw [← hi, ← hj, if_pos h]
theorem part_more {d : Array Cell} {a b pivot i2 j2 : Nat} (hi : i2 = scanUp (fun x => lt x (swp d a pivot)[a]!) (swp d a pivot) (b - 1) (a + 1)) (hj : j2 = scanDown (fun x => !lt x (swp d a pivot)[a]!) (swp d a pivot) i2 (b - 1)) (h : ¬ j2 < i2) :
    partition lt d a b pivot = ((partLoop lt a (i2 + 1) (j2 - 1) (swp (swp d a pivot) i2 j2)).1, false, swp (partLoop lt a (i2 + 1) (j2 - 1) (swp (swp d a pivot) i2 j2)).2 (partLoop lt a (i2 + 1) (j2 - 1) (swp (swp d a pivot) i2 j2)).1 a) := by
  unfold partition
  simp only []
  rw [← hi, ← hj, if_neg h]
theorem loop_end {d : Array Cell} {a i j i2 j2 : Nat} (hi : i2 = scanUp (fun x => lt x d[a]!) d j i) (hj : j2 = scanDown (fun x => !lt x d[a]!) d i2 j) (h : j2 < i2) : partLoop lt a i j d = (j2, d) := by
  rw [partLoop_eq, ← hi, ← hj, if_pos h]
theorem loop_go {d : Array Cell} {a i j i2 j2 : Nat} (hi : i2 = scanUp (fun x => lt x d[a]!) d j i) (hj : j2 = scanDown (fun x => !lt x d[a]!) d i2 j) (h : ¬ j2 < i2) : partLoop lt a i j d = partLoop lt a (i2 + 1) (j2 - 1) (swp d i2 j2) := by
  rw [partLoop_eq, ← hi, ← hj, if_neg h]
set_option maxRecDepth 100000 in
set_option maxHeartbeats 8000000 in
theorem par_any (L : LaysGg.n33 P ρ) (C : SrtC P lt g sf lb sb w0 gb N) (a b pivot : Nat) (d : Array Cell) (w : World) (h : SrtI w0 gb N d w) (hap : a ≤ pivot) (hpb : pivot < b) (hb : b ≤ N) :
    Calls P (ρ.f 33) #[.agg #[.func (.func g) #[] lb, .func (.func sf) #[] sb], .int .i64 a, .int .i64 b, .int .i64 pivot] w fun e w' => e = .returned (.tuple #[.int .i64 (partition lt d a b pivot).1, .bool (partition lt d a b pivot).2.1]) ∧ SrtI w0 gb N (partition lt d a b pivot).2.2 w' ∧ w.grownBy w' (some gb) := by
  have mixed := L.mixed; have t0 := L.t0; have a0 := L.a0; have z0 := L.z0; have v0 := L.v0; have t3 := L.t3; have a3 := L.a3; have z3 := L.z3; have v3 := L.v3; have t4 := L.t4; have a4 := L.a4; have z4 := L.z4; have v4 := L.v4; have t26 := L.t26; have a26 := L.a26; have z26 := L.z26; have v26 := L.v26; have t37 := L.t37; have a37 := L.a37; have z37 := L.z37; have v37 := L.v37; have t44 := L.t44; have a44 := L.a44; have z44 := L.z44; have v44 := L.v44
  have u44 := run_underlying L.t44
  have eg := C.enter
  have CC := Lib.hid C
  have few := C.few
  have HI := Lib.hid h
  clear C h
  go_enter L.f33, BodyGg.n33_ntmps ρ
  go_wp2_with fail
  have X0 := Lib.hid (SrtX.enter (ρ := ρ) (g := g) (sf := sf) (lb := lb) (sb := sb) HI.out CC.out.lo)
  clear HI
  generalize w.alloc (.cells #[.func (.func g) #[] lb, .func (.func sf) #[] sb] (ρ.t 44)) = wa at X0 ⊢
  generalize w.heap.size = db at X0 ⊢
  obtain ⟨c0, c1, hdb⟩ := X0.out.cells
  go_wp2_with fail
  obtain ⟨ws, hs, hX⟩ := X0.out.sw CC.out (a) (pivot) (a : Int) (pivot : Int) (by omega) (by omega) (by omega) (by omega)
  rw [hs, Oper.upon_value]
  have X1 := Lib.hid hX
  clear hX hs X0 c0 c1 hdb
  obtain ⟨D, HD⟩ : ∃ D, Hid (D = swp d a pivot) := ⟨_, Lib.hid rfl⟩
  rw [← HD.out] at X1
  obtain ⟨n, hn⟩ : ∃ n, Hid (n = b - 1) := ⟨_, Lib.hid rfl⟩
  have hn1 : n + 1 = b := by have := hn.out; omega
  go_upto_block 0 with fail
  go_cut [10] (fun v wc => ∃ i2 : Nat, v = .int .i64 i2 ∧ ((a + 1) ≤ i2 ∧ i2 ≤ n + 2) ∧ Hid (i2 = scanUp (fun x => lt x D[a]!) D (n) ((a + 1))) ∧ Hid (SrtX ρ g sf lb sb w0 gb N w db D wc))
  case first =>
    go_wp2_with fail
    go_loopw [10] (fun vi wr => ∃ k : Nat, vi = .int .i64 k ∧ ((a + 1) ≤ k ∧ k ≤ n + 2) ∧ Hid (SrtX ρ g sf lb sb w0 gb N w db D wr) ∧ Hid (scanUp (fun x => lt x D[a]!) D (n) (k) = scanUp (fun x => lt x D[a]!) D (n) ((a + 1)))) (fun vi _ => n + 1 - (intOf vi).toNat)
    case atStart => exact ⟨(a + 1), by go_num, ⟨by omega, by omega⟩, X1, Lib.hid rfl⟩
    case round =>
      clear X1
      obtain ⟨k, rfl, hrng, X, HU⟩ := hrel
      by_cases htest : k ≤ n
      · have htest' : (k : Int) ≤ (b : Int) - 1 := by omega
        obtain ⟨c0, c1, hdb⟩ := X.out.cells
        cases hlv : lt D[k]! D[a]! with
        | true =>
          have HL := Lib.hid hlv
          have X1 := X
          clear hlv X
          go_wp2_with (go_at_fn g; refine (X1.out.lt_ CC.out HL.out _ _ rfl rfl (by omega) (by omega)).mono ?_; clear c0 c1 hdb X1; rintro _ w2 ⟨rfl, hX⟩; have X2 := Lib.hid hX; clear hX)
          go_roundw
          case rel => exact ⟨k + 1, by go_num, ⟨by omega, by omega⟩, X2, Lib.hid (by rw [← HU.out, su_go (fun x => lt x D[a]!) D (n) k htest (by simp [HL.out])])⟩
          case measure => simp [intOf]; omega
        | false =>
          have HL := Lib.hid hlv
          have X1 := X
          clear hlv X
          go_wp2_with (go_at_fn g; refine (X1.out.lt_ CC.out HL.out _ _ rfl rfl (by omega) (by omega)).mono ?_; clear c0 c1 hdb X1; rintro _ w2 ⟨rfl, hX⟩; have X2 := Lib.hid hX; clear hX)
          go_meet
          case rel => exact ⟨k, rfl, hrng, Lib.hid (by rw [← HU.out, su_stop (fun x => lt x D[a]!) D (n) k (fun h => by have := h.2; simp [HL.out] at this)]), X2⟩
      · have htest' : ¬ (k : Int) ≤ (b : Int) - 1 := by omega
        go_wp2_with fail
        go_meet
        case rel => exact ⟨k, rfl, hrng, Lib.hid (by rw [← HU.out, su_stop (fun x => lt x D[a]!) D (n) k (fun h => htest h.1)]), X⟩
  case rest =>
    clear X1
    obtain ⟨i2, rfl, Hi2r, Hi2, X2⟩ := hcut
    go_upto_block 2 with fail
    go_cut [11] (fun v wc => ∃ j2 : Nat, v = .int .i64 j2 ∧ (j2 ≤ n ∧ i2 ≤ j2 + 2) ∧ Hid (j2 = scanDown (fun x => !lt x D[a]!) D (i2) (n)) ∧ Hid (SrtX ρ g sf lb sb w0 gb N w db D wc))
    case first =>
      go_wp2_with fail
      go_loopw [11] (fun vi wr => ∃ k : Nat, vi = .int .i64 k ∧ (k ≤ n ∧ i2 ≤ k + 2) ∧ Hid (SrtX ρ g sf lb sb w0 gb N w db D wr) ∧ Hid (scanDown (fun x => !lt x D[a]!) D (i2) (k) = scanDown (fun x => !lt x D[a]!) D (i2) (n))) (fun vi _ => (intOf vi).toNat)
      case atStart => exact ⟨n, by go_num, ⟨by omega, by omega⟩, X2, Lib.hid rfl⟩
      case round =>
        clear X2
        obtain ⟨k, rfl, hrng, X, HU⟩ := hrel
        by_cases htest : i2 ≤ k
        · have htest' : (i2 : Int) ≤ (k : Int) := by omega
          obtain ⟨c0, c1, hdb⟩ := X.out.cells
          cases hlv : lt D[k]! D[a]! with
          | false =>
            have HL := Lib.hid hlv
            have X1 := X
            clear hlv X
            go_wp2_with (go_at_fn g; refine (X1.out.lt_ CC.out HL.out _ _ rfl rfl (by omega) (by omega)).mono ?_; clear c0 c1 hdb X1; rintro _ w2 ⟨rfl, hX⟩; have X2 := Lib.hid hX; clear hX)
            go_roundw
            case rel => exact ⟨k - 1, by go_num, ⟨by omega, by omega⟩, X2, Lib.hid (by rw [← HU.out, sdn_go (fun x => !lt x D[a]!) D (i2) k (by omega) htest (by simp [HL.out])])⟩
            case measure => simp [intOf]; omega
          | true =>
            have HL := Lib.hid hlv
            have X1 := X
            clear hlv X
            go_wp2_with (go_at_fn g; refine (X1.out.lt_ CC.out HL.out _ _ rfl rfl (by omega) (by omega)).mono ?_; clear c0 c1 hdb X1; rintro _ w2 ⟨rfl, hX⟩; have X2 := Lib.hid hX; clear hX)
            go_meet
            case rel => exact ⟨k, rfl, hrng, Lib.hid (by rw [← HU.out, sdn_stop (fun x => !lt x D[a]!) D (i2) k (by omega) (fun h => by have := h.2; simp [HL.out] at this)]), X2⟩
        · have htest' : ¬ (i2 : Int) ≤ (k : Int) := by omega
          go_wp2_with fail
          go_meet
          case rel => exact ⟨k, rfl, hrng, Lib.hid (by rw [← HU.out, sdn_stop (fun x => !lt x D[a]!) D (i2) k (by omega) (fun h => htest h.1)]), X⟩
    case rest =>
      clear X2
      obtain ⟨j2, rfl, Hj2r, Hj2, X3⟩ := hcut
      have PF := Lib.hid (show i2 = scanUp (fun x => lt x (swp d a pivot)[a]!) (swp d a pivot) (b - 1) (a + 1) by rw [← HD.out, ← hn.out]; exact Hi2.out)
      have PJ := Lib.hid (show j2 = scanDown (fun x => !lt x (swp d a pivot)[a]!) (swp d a pivot) i2 (b - 1) by rw [← HD.out, ← hn.out]; exact Hj2.out)
      obtain ⟨c0, c1, hdb⟩ := X3.out.cells
      by_cases hgt : j2 < i2
      · have hgt' : (j2 : Int) < i2 := by omega
        go_wp2_with fail
        obtain ⟨ws, hs, hX⟩ := X3.out.sw CC.out (j2) (a) (j2 : Int) (a : Int) (by omega) (by omega) (by omega) (by omega)
        rw [hs, Oper.upon_value]
        have X4 := Lib.hid hX
        clear hX hs X3 c0 c1 hdb
        go_wp2_with fail
        go_ret2
        rw [part_first PF.out PJ.out hgt]
        exact ⟨rfl, by rw [← HD.out]; exact X4.out.i, X4.out.k⟩
      · have hgt' : ¬ (j2 : Int) < i2 := by omega
        go_wp2_with fail
        obtain ⟨ws, hs, hX⟩ := X3.out.sw CC.out (i2) (j2) (i2 : Int) (j2 : Int) (by omega) (by omega) (by omega) (by omega)
        rw [hs, Oper.upon_value]
        have X4 := Lib.hid hX
        clear hX hs X3 c0 c1 hdb
        have PM := Lib.hid (part_more PF.out PJ.out hgt)
        obtain ⟨E, HE⟩ : ∃ E, Hid (E = swp D i2 j2) := ⟨_, Lib.hid rfl⟩
        rw [← HE.out] at X4
        have HP : Hid (swp (swp d a pivot) i2 j2 = E) := Lib.hid (by rw [HE.out, HD.out])
        rw [HP.out] at PM
        clear PF PJ Hi2 Hj2
        go_wp2_with fail
        go_loopw [10, 11] (fun vi vj wr => ∃ (i j : Nat) (dk : Array Cell), vi = .int .i64 i ∧ vj = .int .i64 j ∧ a < i ∧ i ≤ j + 2 ∧ j < b ∧ Hid (SrtX ρ g sf lb sb w0 gb N w db dk wr) ∧ Hid (partLoop lt a i j dk = partLoop lt a (i2 + 1) (j2 - 1) E)) (fun vi vj _ => (intOf vj).toNat + 1 - (intOf vi).toNat)
        case atStart => exact ⟨i2 + 1, j2 - 1, E, by go_num, by go_num, by omega, by omega, by omega, X4, Lib.hid rfl⟩
        case round =>
          clear X4
          obtain ⟨i, j, dk, rfl, rfl, hai, hij, hjb, X5, HL⟩ := hrel
          go_upto_block 6 with fail
          go_cut [10] (fun v wc => ∃ i3 : Nat, v = .int .i64 i3 ∧ (i ≤ i3 ∧ i3 ≤ j + 2) ∧ Hid (i3 = scanUp (fun x => lt x dk[a]!) dk (j) (i)) ∧ Hid (SrtX ρ g sf lb sb w0 gb N w db dk wc))
          case first =>
            go_wp2_with fail
            go_loopw [10] (fun vi wr => ∃ k : Nat, vi = .int .i64 k ∧ (i ≤ k ∧ k ≤ j + 2) ∧ Hid (SrtX ρ g sf lb sb w0 gb N w db dk wr) ∧ Hid (scanUp (fun x => lt x dk[a]!) dk (j) (k) = scanUp (fun x => lt x dk[a]!) dk (j) (i))) (fun vi _ => j + 1 - (intOf vi).toNat)
            case atStart => exact ⟨i, by go_num, ⟨by omega, by omega⟩, X5, Lib.hid rfl⟩
            case round =>
              clear X5
              obtain ⟨k, rfl, hrng, X, HU⟩ := hrel
              by_cases htest : k ≤ j
              · have htest' : (k : Int) ≤ (j : Int) := by omega
                obtain ⟨c0, c1, hdb⟩ := X.out.cells
                cases hlv : lt dk[k]! dk[a]! with
                | true =>
                  have HL := Lib.hid hlv
                  have X1 := X
                  clear hlv X
                  go_wp2_with (go_at_fn g; refine (X1.out.lt_ CC.out HL.out _ _ rfl rfl (by omega) (by omega)).mono ?_; clear c0 c1 hdb X1; rintro _ w2 ⟨rfl, hX⟩; have X2 := Lib.hid hX; clear hX)
                  go_roundw
                  case rel => exact ⟨k + 1, by go_num, ⟨by omega, by omega⟩, X2, Lib.hid (by rw [← HU.out, su_go (fun x => lt x dk[a]!) dk (j) k htest (by simp [HL.out])])⟩
                  case measure => simp [intOf]; omega
                | false =>
                  have HL := Lib.hid hlv
                  have X1 := X
                  clear hlv X
                  go_wp2_with (go_at_fn g; refine (X1.out.lt_ CC.out HL.out _ _ rfl rfl (by omega) (by omega)).mono ?_; clear c0 c1 hdb X1; rintro _ w2 ⟨rfl, hX⟩; have X2 := Lib.hid hX; clear hX)
                  go_meet
                  case rel => exact ⟨k, rfl, hrng, Lib.hid (by rw [← HU.out, su_stop (fun x => lt x dk[a]!) dk (j) k (fun h => by have := h.2; simp [HL.out] at this)]), X2⟩
              · have htest' : ¬ (k : Int) ≤ (j : Int) := by omega
                go_wp2_with fail
                go_meet
                case rel => exact ⟨k, rfl, hrng, Lib.hid (by rw [← HU.out, su_stop (fun x => lt x dk[a]!) dk (j) k (fun h => htest h.1)]), X⟩
          case rest =>
            clear X5
            obtain ⟨i3, rfl, Hi3r, Hi3, X6⟩ := hcut
            go_upto_block 8 with fail
            go_cut [11] (fun v wc => ∃ j3 : Nat, v = .int .i64 j3 ∧ (j3 ≤ j ∧ i3 ≤ j3 + 2) ∧ Hid (j3 = scanDown (fun x => !lt x dk[a]!) dk (i3) (j)) ∧ Hid (SrtX ρ g sf lb sb w0 gb N w db dk wc))
            case first =>
              go_wp2_with fail
              go_loopw [11] (fun vi wr => ∃ k : Nat, vi = .int .i64 k ∧ (k ≤ j ∧ i3 ≤ k + 2) ∧ Hid (SrtX ρ g sf lb sb w0 gb N w db dk wr) ∧ Hid (scanDown (fun x => !lt x dk[a]!) dk (i3) (k) = scanDown (fun x => !lt x dk[a]!) dk (i3) (j))) (fun vi _ => (intOf vi).toNat)
              case atStart => exact ⟨j, by go_num, ⟨by omega, by omega⟩, X6, Lib.hid rfl⟩
              case round =>
                clear X6
                obtain ⟨k, rfl, hrng, X, HU⟩ := hrel
                by_cases htest : i3 ≤ k
                · have htest' : (i3 : Int) ≤ (k : Int) := by omega
                  obtain ⟨c0, c1, hdb⟩ := X.out.cells
                  cases hlv : lt dk[k]! dk[a]! with
                  | false =>
                    have HL := Lib.hid hlv
                    have X1 := X
                    clear hlv X
                    go_wp2_with (go_at_fn g; refine (X1.out.lt_ CC.out HL.out _ _ rfl rfl (by omega) (by omega)).mono ?_; clear c0 c1 hdb X1; rintro _ w2 ⟨rfl, hX⟩; have X2 := Lib.hid hX; clear hX)
                    go_roundw
                    case rel => exact ⟨k - 1, by go_num, ⟨by omega, by omega⟩, X2, Lib.hid (by rw [← HU.out, sdn_go (fun x => !lt x dk[a]!) dk (i3) k (by omega) htest (by simp [HL.out])])⟩
                    case measure => simp [intOf]; omega
                  | true =>
                    have HL := Lib.hid hlv
                    have X1 := X
                    clear hlv X
                    go_wp2_with (go_at_fn g; refine (X1.out.lt_ CC.out HL.out _ _ rfl rfl (by omega) (by omega)).mono ?_; clear c0 c1 hdb X1; rintro _ w2 ⟨rfl, hX⟩; have X2 := Lib.hid hX; clear hX)
                    go_meet
                    case rel => exact ⟨k, rfl, hrng, Lib.hid (by rw [← HU.out, sdn_stop (fun x => !lt x dk[a]!) dk (i3) k (by omega) (fun h => by have := h.2; simp [HL.out] at this)]), X2⟩
                · have htest' : ¬ (i3 : Int) ≤ (k : Int) := by omega
                  go_wp2_with fail
                  go_meet
                  case rel => exact ⟨k, rfl, hrng, Lib.hid (by rw [← HU.out, sdn_stop (fun x => !lt x dk[a]!) dk (i3) k (by omega) (fun h => htest h.1)]), X⟩
            case rest =>
              clear X6
              obtain ⟨j3, rfl, Hj3r, Hj3, X7⟩ := hcut
              obtain ⟨c0, c1, hdb⟩ := X7.out.cells
              by_cases hg2 : j3 < i3
              · have hg2' : (j3 : Int) < i3 := by omega
                go_wp2_with fail
                obtain ⟨ws, hs, hX⟩ := X7.out.sw CC.out (j3) (a) (j3 : Int) (a : Int) (by omega) (by omega) (by omega) (by omega)
                rw [hs, Oper.upon_value]
                have X8 := Lib.hid hX
                clear hX hs X7 c0 c1 hdb
                go_wp2_with fail
                go_ret2
                rw [PM.out, ← HL.out, loop_end Hi3.out Hj3.out hg2]
                exact ⟨rfl, X8.out.i, X8.out.k⟩
              · have hg2' : ¬ (j3 : Int) < i3 := by omega
                go_wp2_with fail
                obtain ⟨ws, hs, hX⟩ := X7.out.sw CC.out (i3) (j3) (i3 : Int) (j3 : Int) (by omega) (by omega) (by omega) (by omega)
                rw [hs, Oper.upon_value]
                have X8 := Lib.hid hX
                clear hX hs X7 c0 c1 hdb
                go_wp2_with fail
                go_roundw
                case rel => exact ⟨i3 + 1, j3 - 1, _, by go_num, by go_num, by omega, by omega, by omega, X8, Lib.hid (by rw [← HL.out, loop_go Hi3.out Hj3.out hg2])⟩
                case measure => simp [intOf]; omega
end Go.Proofs.YtcbcknfhblamfaaGreatDoor
