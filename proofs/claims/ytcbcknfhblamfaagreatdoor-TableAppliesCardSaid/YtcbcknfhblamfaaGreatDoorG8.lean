/- sort.pdqsort_func at fewer than fifty rows (the walk): it puts them in order. -/
import Derived.Test.YtcbcknfhblamfaaGreatDoorProg
import Derived.Test.YtcbcknfhblamfaaGreatDoorG7
import Derived.Deep.DeepCutAuto
import Derived.Deep.CutBlock
namespace Go.Proofs.YtcbcknfhblamfaaGreatDoor
open Go.RowKit Go.Shelf Go.Sort

variable {P : Program} {ρ : Ren} {lt : Cell → Cell → Bool} {g sf : Nat} {lb sb : Array Value} {w0 : World} {gb N : Nat}
set_option maxRecDepth 100000 in
set_option maxHeartbeats 16000000 in
theorem pdq_any (L : LaysGg.n14 P ρ) (S : SWO lt) (C : SrtC P lt g sf lb sb w0 gb N) : ∀ (n a b limit : Nat) (d : Array Cell) (w : World), b - a < n → a ≤ b → b ≤ N → limit < 1000 → Go.Sort.Below lt a b d → SrtI w0 gb N d w →
    ∀ (ea eb el : Int), ea = a → eb = b → el = limit → Calls P (ρ.f 14) #[.agg #[.func (.func g) #[] lb, .func (.func sf) #[] sb], .int .i64 ea, .int .i64 eb, .int .i64 el] w fun e w' => e = .returned (.tuple #[]) ∧ ∃ d', PermIn a b d d' ∧ SortedIn lt a b d' ∧ SrtI w0 gb N d' w' ∧ w.grownBy w' (some gb) := by
  intro n
  induction n with
  | zero => intro a b limit d w h; omega
  | succ n ih =>
  intro aS bS limit d w hn hab hb hlim hB h ea eb el h1 h2 h3
  subst h1 h2 h3
  have IH := Lib.hid ih
  have INS := Lib.hid (ins_any (P := P) (ρ := ρ) { L with } C)
  have HEAP := Lib.hid (heap_any (P := P) (ρ := ρ) { L with } C)
  have BRK := Lib.hid (brk_any (P := P) (ρ := ρ) { L with } C)
  have PIV := Lib.hid (piv_any (P := P) (ρ := ρ) { L with } C)
  have REV := Lib.hid (rev_any (P := P) (ρ := ρ) { L with } C)
  have PIS := Lib.hid (pis_any (P := P) (ρ := ρ) { L with } S C)
  have PEQ := Lib.hid (peq_any (P := P) (ρ := ρ) { L with } C)
  have PAR := Lib.hid (par_any (P := P) (ρ := ρ) { L with } C)
  have mixed := L.mixed; have t0 := L.t0; have a0 := L.a0; have z0 := L.z0; have v0 := L.v0; have t3 := L.t3; have a3 := L.a3; have z3 := L.z3; have v3 := L.v3; have t4 := L.t4; have a4 := L.a4; have z4 := L.z4; have v4 := L.v4; have t5 := L.t5; have a5 := L.a5; have z5 := L.z5; have v5 := L.v5; have t9 := L.t9; have a9 := L.a9; have z9 := L.z9; have v9 := L.v9; have t26 := L.t26; have a26 := L.a26; have z26 := L.z26; have v26 := L.v26; have t37 := L.t37; have a37 := L.a37; have z37 := L.z37; have v37 := L.v37; have t41 := L.t41; have a41 := L.a41; have z41 := L.z41; have v41 := L.v41; have t44 := L.t44; have a44 := L.a44; have z44 := L.z44; have v44 := L.v44; have t49 := L.t49; have a49 := L.a49; have z49 := L.z49; have v49 := L.v49; have t51 := L.t51; have a51 := L.a51; have z51 := L.z51; have v51 := L.v51; have t53 := L.t53; have a53 := L.a53; have z53 := L.z53; have v53 := L.v53; have t54 := L.t54; have a54 := L.a54; have z54 := L.z54; have v54 := L.v54; have t58 := L.t58; have a58 := L.a58; have z58 := L.z58; have v58 := L.v58; have t60 := L.t60; have a60 := L.a60; have z60 := L.z60; have v60 := L.v60; have t64 := L.t64; have a64 := L.a64; have z64 := L.z64; have v64 := L.v64; have t66 := L.t66; have a66 := L.a66; have z66 := L.z66; have v66 := L.v66; have t67 := L.t67; have a67 := L.a67; have z67 := L.z67; have v67 := L.v67
  have u44 := run_underlying L.t44
  have eg := C.enter
  have e14 : ∀ args w, (callFunc (ρ.f 14) args).run P w = .ok (.enter (ρ.f 14) args) w := enters_of L.f14 (by kernel_rfl) rfl
  have e26 : ∀ args w, (callFunc (ρ.f 26) args).run P w = .ok (.enter (ρ.f 26) args) w := enters_of L.f26 (by kernel_rfl) rfl
  have e27 : ∀ args w, (callFunc (ρ.f 27) args).run P w = .ok (.enter (ρ.f 27) args) w := enters_of L.f27 (by kernel_rfl) rfl
  have e28 : ∀ args w, (callFunc (ρ.f 28) args).run P w = .ok (.enter (ρ.f 28) args) w := enters_of L.f28 (by kernel_rfl) rfl
  have e29 : ∀ args w, (callFunc (ρ.f 29) args).run P w = .ok (.enter (ρ.f 29) args) w := enters_of L.f29 (by kernel_rfl) rfl
  have e30 : ∀ args w, (callFunc (ρ.f 30) args).run P w = .ok (.enter (ρ.f 30) args) w := enters_of L.f30 (by kernel_rfl) rfl
  have e31 : ∀ args w, (callFunc (ρ.f 31) args).run P w = .ok (.enter (ρ.f 31) args) w := enters_of L.f31 (by kernel_rfl) rfl
  have e32 : ∀ args w, (callFunc (ρ.f 32) args).run P w = .ok (.enter (ρ.f 32) args) w := enters_of L.f32 (by kernel_rfl) rfl
  have e33 : ∀ args w, (callFunc (ρ.f 33) args).run P w = .ok (.enter (ρ.f 33) args) w := enters_of L.f33 (by kernel_rfl) rfl
  have CC := Lib.hid C
  have few := C.few
  have HI := Lib.hid h
  have PQ := Lib.hid (Pq.start hB)
  clear h ih hB
  go_enter L.f14, BodyGg.n14_ntmps ρ
  go_wp2_with fail
  have X0 := Lib.hid (SrtX.enter (ρ := ρ) (g := g) (sf := sf) (lb := lb) (sb := sb) HI.out CC.out.lo)
  clear HI
  generalize w.alloc (.cells #[.func (.func g) #[] lb, .func (.func sf) #[] sb] (ρ.t 44)) = wa at X0 ⊢
  generalize w.heap.size = db at X0 ⊢
  go_loopw [1, 2, 3, 8, 9] (fun v1 v2 v3 v8 v9 wr => ∃ (a b l : Nat) (wb wp : Bool) (dk : Array Cell), v1 = .int .i64 a ∧ v2 = .int .i64 b ∧ v3 = .int .i64 l ∧ v8 = .bool wb ∧ v9 = .bool wp ∧ (aS ≤ a ∧ a ≤ b ∧ b ≤ bS ∧ l < 1000) ∧ Hid (SrtX ρ g sf lb sb w0 gb N w db dk wr) ∧ Hid (Pq lt aS bS d a b dk)) (fun v1 v2 _ _ _ _ => (intOf v2).toNat - (intOf v1).toNat)
  case atStart => exact ⟨aS, bS, limit, true, true, d, rfl, rfl, rfl, rfl, rfl, ⟨by omega, by omega, by omega, hlim⟩, X0, PQ⟩
  case round =>
    clear X0 PQ
    obtain ⟨a, b, l, wb, wp, dk, rfl, rfl, rfl, rfl, rfl, ⟨hr1, hr2, hr3, hr4⟩, X, PQ⟩ := hrel
    obtain ⟨c0, c1, hdb⟩ := X.out.cells
    have hNk := Lib.hid X.out.i.n
    by_cases h12 : b - a ≤ 12
    · have h12' : (b : Int) - a ≤ 12 := by omega
      go_wp2_with fail
      refine (INS.out a b dk _ X.out.i hr2 (by omega)).mono ?_
      clear c0 c1 hdb
      rintro _ w2 ⟨rfl, hI, hK⟩
      have X2 := Lib.hid (X.out.step hI hK)
      clear hI hK X
      go_wp2_with fail
      (try simp only [Exit.inBlock, Exit.then]); refine bodyPost_ret (results_none rfl _ _ _) rfl ?_
      have hs := insertionSort_holds S dk a b hr2 (by have := hNk.out; omega)
      have hf := PQ.out.fin _ hs.1 hs.2
      exact ⟨rfl, _, hf.1, hf.2, X2.out.i, X2.out.k⟩
    · have h12' : ¬ (b : Int) - a ≤ 12 := by omega
      by_cases hl0 : l = 0
      · subst hl0
        go_wp2_with fail
        refine (HEAP.out a b dk _ X.out.i (by omega) (by omega)).mono ?_
        clear c0 c1 hdb
        rintro _ w2 ⟨rfl, hI, hK⟩
        have X2 := Lib.hid (X.out.step hI hK)
        clear hI hK X
        go_wp2_with fail
        (try simp only [Exit.inBlock, Exit.then]); refine bodyPost_ret (results_none rfl _ _ _) rfl ?_
        have hs := heapSort_holds S dk a b hr2 (by have := hNk.out; omega)
        have hf := PQ.out.fin _ hs.1 hs.2
        exact ⟨rfl, _, hf.1, hf.2, X2.out.i, X2.out.k⟩
      · have hlb : ((l : Int) == 0) = false := by simp; omega
        have HL0 := Lib.hid hl0
        clear hl0
        go_upto_if 35 with fail
        go_cut [3] (fun v3 wc => ∃ (l2 : Nat) (d2 : Array Cell), v3 = .int .i64 l2 ∧ l2 < 1000 ∧ Hid (d2.size = N ∧ PermIn a b dk d2) ∧ Hid (SrtX ρ g sf lb sb w0 gb N w db d2 wc))
        case first =>
          cases wb with
          | true =>
            go_wp2_with fail
            go_meet
            case rel => exact ⟨l, dk, rfl, hr4, Lib.hid ⟨hNk.out, permIn_refl _ _ _⟩, X⟩
          | false =>
            go_wp2_with fail
            refine (BRK.out a b dk _ X.out.i hr2 (by omega)).mono ?_
            clear c0 c1 hdb
            rintro _ w2 ⟨rfl, d2, hp, hI, hK⟩
            have X2 := Lib.hid (X.out.step hI hK)
            have hn2 := Lib.hid (And.intro hI.n hp)
            clear hI hK hp X
            have hl1 : l - 1 < 1000 ∧ 1 ≤ l := by have := HL0.out; omega
            go_wp2_with fail
            go_meet
            case rel => exact ⟨l - 1, d2, by go_num, hl1.1, hn2, X2⟩
        case rest =>
          obtain ⟨l2, d2, rfl, hl2, HN2, X2⟩ := hcut
          have PQ2 := Lib.hid (PQ.out.perm (by have := hNk.out; omega) HN2.out.2)
          clear X PQ c0 c1 hdb hNk hlb HL0
          obtain ⟨c0, c1, hdb⟩ := X2.out.cells
          go_wp2_with fail
          refine (PIV.out a b d2 _ X2.out.i (by omega) (by omega)).mono ?_
          clear c0 c1 hdb
          rintro _ w3 ⟨p, hh, rfl, hpr, hhr, hI, hK⟩
          have X3 := Lib.hid (X2.out.step hI hK)
          clear hI hK X2 hhr
          obtain ⟨c0, c1, hdb⟩ := X3.out.cells
          go_upto_if 50 with fail
          go_cut [11, 12] (fun v11 v12 wc => ∃ (p2 : Nat) (h2 : Int) (d3 : Array Cell), v11 = .int .i64 p2 ∧ v12 = .int .i64 h2 ∧ (a ≤ p2 ∧ p2 < b) ∧ Hid (d3.size = N ∧ PermIn a b d2 d3) ∧ Hid (SrtX ρ g sf lb sb w0 gb N w db d3 wc))
          case first =>
            by_cases hh2 : hh = 2
            · subst hh2
              go_wp2_with fail
              refine (REV.out a b d2 _ X3.out.i hr2 (by omega)).mono ?_
              clear c0 c1 hdb
              rintro _ w4 ⟨rfl, d3, hp, hI, hK⟩
              have X4 := Lib.hid (X3.out.step hI hK)
              have hn3 := Lib.hid (And.intro hI.n hp)
              clear hI hK hp X3
              go_wp2_with fail
              go_meet
              case rel => exact ⟨b - 1 - (p - a), 1, d3, by go_num, rfl, ⟨by omega, by omega⟩, hn3, X4⟩
            · have hb2 : (hh == 2) = false := by simp [hh2]
              clear hh2
              go_wp2_with fail
              go_meet
              case rel => exact ⟨p, hh, d2, rfl, rfl, hpr, Lib.hid ⟨HN2.out.1, permIn_refl _ _ _⟩, X3⟩
          case rest =>
            obtain ⟨p2, h2, d3, rfl, rfl, hp2, HN3, X4⟩ := hcut
            have PQ3 := Lib.hid (PQ2.out.perm (by have := HN2.out.1; omega) HN3.out.2)
            have HS3 := Lib.hid (show b ≤ d3.size by have := HN3.out.1; omega)
            clear X3 PQ2 c0 c1 hdb HN2 HN3 hpr
            go_upto_region 16 with fail
            go_cut [68] (fun v wc => ∃ t : Bool, v = .bool t ∧ Hid (SrtX ρ g sf lb sb w0 gb N w db d3 wc))
            case first =>
              by_cases hh1 : h2 = 1
              · subst hh1
                cases wb with
                | true =>
                  cases wp with
                  | true =>
                    go_wp2_with fail
                    go_meet
                    case rel => exact ⟨_, rfl, X4⟩
                  | false =>
                    go_wp2_with fail
                    go_meet
                    case rel => exact ⟨_, rfl, X4⟩
                | false =>
                  go_wp2_with fail
                  go_meet
                  case rel => exact ⟨_, rfl, X4⟩
              · have hb1 : (h2 == 1) = false := by simp [hh1]
                clear hh1
                cases wb with
                | true =>
                  cases wp with
                  | true =>
                    go_wp2_with fail
                    go_meet
                    case rel => exact ⟨_, rfl, X4⟩
                  | false =>
                    go_wp2_with fail
                    go_meet
                    case rel => exact ⟨_, rfl, X4⟩
                | false =>
                  go_wp2_with fail
                  go_meet
                  case rel => exact ⟨_, rfl, X4⟩
            case rest =>
              obtain ⟨t, rfl, X5⟩ := hcut
              clear X4
              go_upto_if 68 with fail
              go_cut [] (fun wc => Hid (SrtX ρ g sf lb sb w0 gb N w db d3 wc))
              case first =>
                cases t with
                | false =>
                  go_wp2_with fail
                  go_meet
                  case rel => exact X5
                | true =>
                  obtain ⟨c0, c1, hdb⟩ := X5.out.cells
                  go_wp2_with fail
                  refine (PIS.out a b d3 _ X5.out.i (by omega) (by omega)).mono ?_
                  clear c0 c1 hdb
                  rintro _ w6 ⟨r, rfl, hsr, hI, hK⟩
                  have X6 := Lib.hid (X5.out.step hI hK)
                  have HSR := Lib.hid hsr
                  clear hI hK X5 hsr
                  cases r with
                  | true =>
                    go_wp2_with fail
                    (try simp only [Exit.inBlock, Exit.then]); refine bodyPost_ret (results_none rfl _ _ _) rfl ?_
                    have hf := PQ3.out.fin d3 (permIn_refl _ _ _) (HSR.out (by simp))
                    exact ⟨rfl, _, hf.1, hf.2, X6.out.i, X6.out.k⟩
                  | false =>
                    go_wp2_with fail
                    go_meet
                    case rel => exact X6
              case rest =>
                have X7 := hcut
                clear hcut X5
                go_upto_region 18 with fail
                go_cut [83] (fun v wc => ∃ t : Bool, v = .bool t ∧ Hid (t = true → 0 < a ∧ lt d3[a - 1]! d3[p2]! = false) ∧ Hid (SrtX ρ g sf lb sb w0 gb N w db d3 wc))
                case first =>
                  obtain ⟨c0, c1, hdb⟩ := X7.out.cells
                  by_cases ha : 0 < a
                  · have ha' : (0 : Int) < a := by omega
                    cases hlv : lt d3[a - 1]! d3[p2]! with
                    | true =>
                      have HL := Lib.hid hlv
                      clear hlv
                      go_wp2_with (go_at_fn g; refine (X7.out.lt_ CC.out HL.out _ _ (by omega) rfl (by omega) (by omega)).mono ?_; clear c0 c1 hdb X7; rintro _ w8 ⟨rfl, hX⟩; have X8 := Lib.hid hX; clear hX)
                      go_meet
                      case rel => exact ⟨false, rfl, Lib.hid (fun e => by cases e), X8⟩
                    | false =>
                      have HL := Lib.hid hlv
                      clear hlv
                      go_wp2_with (go_at_fn g; refine (X7.out.lt_ CC.out HL.out _ _ (by omega) rfl (by omega) (by omega)).mono ?_; clear c0 c1 hdb X7; rintro _ w8 ⟨rfl, hX⟩; have X8 := Lib.hid hX; clear hX)
                      go_meet
                      case rel => exact ⟨true, rfl, Lib.hid (fun _ => ⟨ha, HL.out⟩), X8⟩
                  · have ha' : ¬ (0 : Int) < a := by omega
                    go_wp2_with fail
                    go_meet
                    case rel => exact ⟨false, rfl, Lib.hid (fun e => by cases e), X7⟩
                case rest =>
                  obtain ⟨t, rfl, HT, X8⟩ := hcut
                  clear X7
                  obtain ⟨c0, c1, hdb⟩ := X8.out.cells
                  cases t with
                  | true =>
                    have HE := Lib.hid (PQ3.out.eq S (HT.out rfl).1 hp2.1 hp2.2 HS3.out (HT.out rfl).2)
                    clear HT
                    go_wp2_with fail
                    refine (PEQ.out a b p2 d3 _ X8.out.i hp2.1 hp2.2 (by omega)).mono ?_
                    clear c0 c1 hdb
                    rintro _ w9 ⟨rfl, hI, hK⟩
                    have X9 := Lib.hid (X8.out.step hI hK)
                    clear hI hK X8
                    generalize partitionEqual lt d3 a b p2 = r at HE X9 ⊢
                    obtain ⟨mid, d4⟩ := r
                    have hm : a < mid ∧ mid ≤ b := ⟨HE.out.1, HE.out.2.1⟩
                    dsimp only at X9 ⊢
                    go_wp2_with fail
                    go_roundw
                    case rel => exact ⟨mid, b, l2, wb, wp, d4, rfl, rfl, rfl, rfl, rfl, ⟨by omega, by omega, by omega, hl2⟩, X9, Lib.hid HE.out.2.2⟩
                    case measure => simp [intOf]; omega
                  | false =>
                    have HE := Lib.hid (PQ3.out.part S hp2.1 hp2.2 HS3.out)
                    clear HT
                    go_wp2_with fail
                    refine (PAR.out a b p2 d3 _ X8.out.i hp2.1 hp2.2 (by omega)).mono ?_
                    clear c0 c1 hdb
                    rintro _ w9 ⟨rfl, hI, hK⟩
                    have X9 := Lib.hid (X8.out.step hI hK)
                    clear hI hK X8
                    generalize partition lt d3 a b p2 = r at HE X9 ⊢
                    obtain ⟨mid, ap, d4⟩ := r
                    have hm : a ≤ mid ∧ mid < b := ⟨HE.out.1, HE.out.2.1⟩
                    dsimp only at X9 ⊢
                    obtain ⟨c0, c1, hdb⟩ := X9.out.cells
                    by_cases hlr : mid - a < b - mid
                    · have hlr' : (mid : Int) - a < (b : Int) - mid := by omega
                      go_wp2_with fail
                      refine (IH.out a mid l2 d4 _ (by omega) (by omega) (by omega) hl2 HE.out.2.2.1 X9.out.i _ _ _ rfl rfl rfl).mono ?_
                      clear c0 c1 hdb
                      rintro _ w10 ⟨rfl, d5, hp5, hs5, hI, hK⟩
                      have X10 := Lib.hid (X9.out.step hI hK)
                      have PQ5 := Lib.hid (HE.out.2.2.2.2.1 d5 hp5 hs5)
                      clear hI hK X9 hp5 hs5
                      go_wp2_with fail
                      go_roundw
                      case rel => exact ⟨mid + 1, b, l2, _, ap, d5, by go_num, rfl, rfl, rfl, rfl, ⟨by omega, by omega, by omega, hl2⟩, X10, PQ5⟩
                      case measure => simp [intOf]; omega
                    · have hlr' : ¬ (mid : Int) - a < (b : Int) - mid := by omega
                      go_wp2_with fail
                      refine (IH.out (mid + 1) b l2 d4 _ (by omega) (by omega) (by omega) hl2 HE.out.2.2.2.1 X9.out.i _ _ _ (by omega) rfl rfl).mono ?_
                      clear c0 c1 hdb
                      rintro _ w10 ⟨rfl, d5, hp5, hs5, hI, hK⟩
                      have X10 := Lib.hid (X9.out.step hI hK)
                      have PQ5 := Lib.hid (HE.out.2.2.2.2.2 d5 hp5 hs5)
                      clear hI hK X9 hp5 hs5
                      go_wp2_with fail
                      go_roundw
                      case rel => exact ⟨a, mid, l2, _, ap, d5, rfl, rfl, rfl, rfl, rfl, ⟨by omega, by omega, by omega, hl2⟩, X10, PQ5⟩
                      case measure => simp [intOf]; omega
end Go.Proofs.YtcbcknfhblamfaaGreatDoor
