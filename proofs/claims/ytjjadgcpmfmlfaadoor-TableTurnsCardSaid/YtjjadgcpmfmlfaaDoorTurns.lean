/- oubliettekeep.TableTurns (the walk). -/
import Derived.Test.YtjjadgcpmfmlfaaDoorProg
import Derived.Test.YtjjadgcpmfmlfaaDoorTurn1
import Derived.Test.YtjjadgcpmfmlfaaDoorTurnL
import Derived.Test.YtjjadgcpmfmlfaaDoorEqC
import Derived.Test.YtjjadgcpmfmlfaaDoorBools
namespace Go.Proofs.YtjjadgcpmfmlfaaDoor
open Go.RowKit Go.Shelf

/-- Two sides: events of ann's in t, events of bob's in u. -/
structure Sides (a b : List Ev) : Prop where
  na : a.length ≤ 30
  nb : b.length ≤ 30
  sa : ∀ e ∈ a, e.subject.size ≤ 1048576 ∧ e.table.size ≤ 1048576 ∧ e.row.size ≤ 1048576
  sb : ∀ e ∈ b, e.subject.size ≤ 1048576 ∧ e.table.size ≤ 1048576 ∧ e.row.size ≤ 1048576
  ea : ∀ e ∈ a, evOf [97, 110, 110] [116] e
  eb : ∀ e ∈ b, evOf [98, 111, 98] [117] e
theorem one_small {l : List Ev} {s t : ByteArray} (hs : s.size ≤ 1048576) (ht : t.size ≤ 1048576) (h : ∀ e ∈ l, e.subject.size ≤ 1048576 ∧ e.table.size ≤ 1048576 ∧ e.row.size ≤ 1048576) :
    ∀ e ∈ l.map (oneE s t), e.subject.size ≤ 1048576 ∧ e.table.size ≤ 1048576 ∧ e.row.size ≤ 1048576 := by
  intro e he
  obtain ⟨x, hx, rfl⟩ := List.mem_map.1 he
  obtain ⟨h1, h2, h3⟩ := h x hx
  unfold oneE
  dsimp only
  refine ⟨hs, ?_, h3⟩
  split
  · exact h2
  · exact ht
theorem one_of (s t : ByteArray) (l : List Ev) : ∀ e ∈ l.map (oneE s t), evOf (txt s) (txt t) e := by
  intro e he
  obtain ⟨x, hx, rfl⟩ := List.mem_map.1 he
  unfold oneE evOf
  dsimp only
  exact ⟨rfl, fun h => by rw [if_neg h]⟩
theorem Sides.of {l m : List Ev} (h1 : fewB l = true) (h2 : fewB m = true) : Sides (l.map (oneE ⟨#[97, 110, 110]⟩ ⟨#[116]⟩)) (m.map (oneE ⟨#[98, 111, 98]⟩ ⟨#[117]⟩)) :=
  ⟨by rw [List.length_map]; exact (few_smalls h1).1, by rw [List.length_map]; exact (few_smalls h2).1, one_small (by decide) (by decide) (few_smalls h1).2, one_small (by decide) (by decide) (few_smalls h2).2, one_of ⟨#[97, 110, 110]⟩ ⟨#[116]⟩ l, one_of ⟨#[98, 111, 98]⟩ ⟨#[117]⟩ m⟩
theorem Sides.left {a b : List Ev} (h : Sides a b) {i k : Nat} {x : Ev} {T : List Cell} (hx : a[i]? = some x) (ho : Once T) (hb : both okV (a.take i) (b.take k) T) : both okV (a.take (i + 1)) (b.take k) (applyT okV x T) := by
  rw [List.take_add_one, hx]
  exact both.left (by decide) (by decide) ho (fun e he => h.eb e (List.mem_of_mem_take he)) (h.ea x (List.mem_of_getElem? hx)) hb
theorem Sides.right {a b : List Ev} (h : Sides a b) {i k : Nat} {x : Ev} {T : List Cell} (hx : b[k]? = some x) (ho : Once T) (hb : both okV (a.take i) (b.take k) T) : both okV (a.take i) (b.take (k + 1)) (applyT okV x T) := by
  rw [List.take_add_one, hx]
  exact both.right (by decide) (by decide) ho (fun e he => h.ea e (List.mem_of_mem_take he)) (h.eb x (List.mem_of_getElem? hx)) hb
theorem boolsAt.at {w w' : World} {q : Option Addr} {ts : List Bool} {n : Nat} (h : boolsAt w q ts) (hb : Below n w w') (hn : w.heap.size ≤ n) : boolsAt w' q ts := by
  intro j b hj
  obtain ⟨g, o, hq, hg, hc⟩ := h j b hj
  exact ⟨g, o, hq, Nat.lt_of_lt_of_le hg hb.size, cell_below (p := ⟨g, o + j, none⟩) hb (Nat.lt_of_lt_of_le hg hn) hc⟩
theorem evsAt.at {w w' : World} {q : Option Addr} {l : List Ev} {n : Nat} (h : evsAt w q l) (hb : Below n w w') (hn : w.heap.size ≤ n) : evsAt w' q l := evsAt_of h (fun k hk => hb.block k (Nat.lt_of_lt_of_le hk hn)) hb.size
theorem evsAt.row {w : World} {q : Option Addr} {l : List Ev} {j : Nat} {x : Ev} (h : evsAt w q l) (hj : l[j]? = some x) : ∃ g o, q = some ⟨g, o, none⟩ ∧ w.cell? ⟨g, o + j * 5, none⟩ = some (.int .i64 x.kind) ∧ w.cell? ⟨g, o + j * 5 + 1, none⟩ = some (.string x.subject) ∧ w.cell? ⟨g, o + j * 5 + 2, none⟩ = some (.string x.table) ∧ w.cell? ⟨g, o + j * 5 + 3, none⟩ = some (.string x.row) ∧ w.cell? ⟨g, o + j * 5 + 4, none⟩ = some (.string x.value) := by
  rcases h with rfl | ⟨g, o, hq, hg, hc⟩
  · simp at hj
  · exact ⟨g, o, hq, evsAt_cells hc hj⟩
theorem tabs.made2 (w : World) : tabs w.heap.size w ((w.alloc (.cells #[.map none] 75)).alloc (.cells #[.map none] 75)) w.heap.size 2 0 (fun _ => []) :=
  ((tabs.start (Below.refl w.heap.size w) (Nat.le_refl _)).more rfl rfl).more (by simp) rfl
set_option maxRecDepth 100000 in
set_option maxHeartbeats 4000000 in
theorem turns_any (q1 : Option Addr) (cp1 : Nat) (l : List Ev) (q2 : Option Addr) (cp2 : Nat) (m : List Ev) (q3 : Option Addr) (cp3 : Nat) (ts : List Bool) (w : World)
    (hl : l.length ≤ 9223372036854775807) (hm : m.length ≤ 9223372036854775807) (ht : ts.length ≤ 9223372036854775807) (h1 : evsAt w q1 l) (h2 : evsAt w q2 m) (h3 : boolsAt w q3 ts) :
    Calls Tryd.prog 11 #[.slice q1 l.length cp1, .slice q2 m.length cp2, .slice q3 ts.length cp3] w (Res true w) := by
  have F1 := few_any q1 cp1 l w hl h1
  have S1 := Lib.hid (fun (h : fewB l = true) (h' : fewB m = true) => (⟨Sides.of h h', (few_smalls h).1, (few_smalls h').1⟩ : Sides _ _ ∧ _ ∧ _))
  have E1 := Lib.hid h1
  have E2 := Lib.hid h2
  have E3 := Lib.hid h3
  clear h1 h2 h3
  go_enter Tryd.func11, Tryd.ntmps11
  go_wp2_with fail
  refine F1.mono ?_
  rintro _ w1 ⟨rfl, hx⟩
  have X1 := Lib.hid hx
  have B1 := Lib.hid (ext_iff.1 hx)
  clear hx F1
  generalize fewB l = few1 at S1
  cases few1 with
  | false =>
    go_wp2_with fail
    go_ret
    exact ⟨rfl, X1.out⟩
  | true =>
    have F2 := few_any q2 cp2 m w1 hm (E2.out.at B1.out (Nat.le_refl _))
    go_wp2_with fail
    refine F2.mono ?_
    rintro _ w2 ⟨rfl, hx⟩
    have X2 := Lib.hid (ext_trans X1.out hx)
    clear hx F2 X1 B1
    generalize fewB m = few2 at S1
    cases few2 with
    | false =>
      go_wp2_with fail
      go_ret
      exact ⟨rfl, X2.out⟩
    | true =>
      cases hlong : decide ((70 : Int) < ts.length) with
      | true =>
        go_wp2_with fail
        go_ret
        exact ⟨rfl, X2.out⟩
      | false =>
        have hts : ts.length ≤ 70 := by simp at hlong; omega
        obtain ⟨SD, hl30, hm30⟩ := S1.out (by simp) (by simp)
        have SD := Lib.hid SD
        clear S1
        go_wp2_with fail
        refine (applied_any _).mono ?_
        rintro _ w3 ⟨rfl, hx⟩
        have X3 := Lib.hid (ext_trans X2.out hx)
        have B3 := Lib.hid (ext_iff.1 X3.out)
        clear hx X2
        have O1 := one_any q1 cp1 l ⟨#[97, 110, 110]⟩ ⟨#[116]⟩ w3 hl30 (E1.out.at B3.out (Nat.le_refl _))
        have M3 := Lib.hid (E2.out.at B3.out (Nat.le_refl _))
        have T3 := Lib.hid (E3.out.at B3.out (Nat.le_refl _))
        clear E1 E2 E3 B3
        generalize l.map (oneE ⟨#[97, 110, 110]⟩ ⟨#[116]⟩) = a at SD O1
        go_wp2_with fail
        refine O1.mono ?_
        rintro _ w4 ⟨v1, rfl, ho, hB⟩
        clear O1
        obtain ⟨qa, ca, rfl⟩ := ownsEl_shape ho
        have EA := Lib.hid (evsAt_owned ho)
        have X4 := Lib.hid (ext_trans X3.out (ext_of hB))
        have O2 := one_any q2 cp2 m ⟨#[98, 111, 98]⟩ ⟨#[117]⟩ w4 hm30 (M3.out.at hB (Nat.le_refl _))
        have T4 := Lib.hid (T3.out.at hB (Nat.le_refl _))
        clear ho hB X3 M3 T3
        generalize m.map (oneE ⟨#[98, 111, 98]⟩ ⟨#[117]⟩) = b at SD O2
        go_wp2_with fail
        refine O2.mono ?_
        rintro _ w5 ⟨v2, rfl, ho, hB⟩
        clear O2
        obtain ⟨qb, cb, rfl⟩ := ownsEl_shape ho
        have EB := Lib.hid (evsAt_owned ho)
        have EA5 := Lib.hid (EA.out.at hB (Nat.le_refl _))
        have X5 := Lib.hid (ext_trans X4.out (ext_of hB))
        have T5 := Lib.hid (T4.out.at hB (Nat.le_refl _))
        clear ho hB X4 EA T4
        go_wp2_with fail
        have TB := Lib.hid (tabs.made2 w5)
        have na := SD.out.na
        have nb := SD.out.nb
        generalize (w5.alloc (.cells #[.map none] 75)).alloc (.cells #[.map none] 75) = w6 at TB ⊢
        have hsz : w5.heap.size ≤ w5.heap.size := Nat.le_refl _
        generalize hsb : w5.heap.size = sb at TB hsz ⊢
        go_loopw [12] (fun iv wr => ∃ (k : Nat) (T : Nat → List Cell), k ≤ a.length + b.length ∧ iv = .int .i64 k ∧ Hid (tabs sb w5 wr sb 2 k T) ∧ Hid (both okV (a.take k) (b.take (k - a.length)) (T 0)) ∧ Hid (T 1 = [])) (fun iv _ => a.length + b.length - (intOf iv).toNat)
        case atStart => exact ⟨0, _, Nat.zero_le _, rfl, TB, Lib.hid (by rw [Nat.zero_sub]; exact both.start okV), Lib.hid rfl⟩
        case round =>
          clear TB w6
          obtain ⟨kz, T, hkz, rfl, TB, BO, NI⟩ := hrel
          by_cases hlt : kz < a.length + b.length
          · by_cases h1 : kz < a.length
            · have hlt' : (kz : Int) < a.length + b.length := by omega
              have h1' : (kz : Int) < a.length := by omega
              have hx := List.getElem?_eq_getElem (h1 : kz < a.length)
              have hsx := SD.out.sa _ (List.getElem_mem (h1 : kz < a.length))
              generalize a[kz] = x at hx hsx
              obtain ⟨g, o, rfl, e0, e1, e2, e3, e4⟩ := (EA5.out.at TB.out.below (Nat.le_of_eq hsb)).row hx
              have AP := apply_tabs x TB.out 0 sb (by decide) rfl (by omega) hsx
              have ON := TB.out.once 0 (by decide)
              have BN := Lib.hid (show both okV (a.take (kz + 1)) (b.take (kz + 1 - a.length)) (applyT okV x (T 0)) from by
                have h := SD.out.left hx ON BO.out
                rw [show kz + 1 - a.length = kz - a.length by omega]
                exact h)
              generalize (if rightE okV x = true then Value.nilIface else errV 1) = rv at AP
              unfold evV at AP
              clear BO ON hx hsx
              go_wp2_with fail
              refine AP.mono ?_
              rintro _ w7 ⟨rfl, TN⟩
              have TN := Lib.hid TN
              clear AP TB e0 e1 e2 e3 e4
              go_wp2_with fail
              go_roundw
              case rel => exact ⟨kz + 1, _, by omega, by go_num, TN, Lib.hid (by rw [updT_same]; exact BN.out), Lib.hid (by rw [updT_other _ _ (by decide)]; exact NI.out)⟩
              case measure => simp [intOf]; omega
            · obtain ⟨j, rfl⟩ : ∃ j, kz = a.length + j := ⟨kz - a.length, by omega⟩
              have h2 : j < b.length := by omega
              have hlt' : ((a.length + j : Nat) : Int) < a.length + b.length := by omega
              have h1' : ¬ ((a.length + j : Nat) : Int) < a.length := by omega
              have hsub : ((a.length + j : Nat) : Int) - a.length = j := by omega
              have hx := List.getElem?_eq_getElem (h2 : j < b.length)
              have hsx := SD.out.sb _ (List.getElem_mem (h2 : j < b.length))
              generalize b[j] = x at hx hsx
              obtain ⟨g, o, rfl, e0, e1, e2, e3, e4⟩ := (EB.out.at TB.out.below (Nat.le_of_eq hsb)).row hx
              have AP := apply_tabs x TB.out 0 sb (by decide) rfl (by omega) hsx
              have ON := TB.out.once 0 (by decide)
              have BN := Lib.hid (show both okV (a.take (a.length + j + 1)) (b.take (a.length + j + 1 - a.length)) (applyT okV x (T 0)) from by
                have h := BO.out
                rw [Nat.add_sub_cancel_left] at h
                have h := SD.out.right hx ON h
                rw [show a.length + j + 1 - a.length = j + 1 by omega]
                rw [List.take_of_length_le (by omega)] at h ⊢
                exact h)
              generalize (if rightE okV x = true then Value.nilIface else errV 1) = rv at AP
              unfold evV at AP
              clear BO ON hx hsx
              go_wp2_with fail
              refine AP.mono ?_
              rintro _ w7 ⟨rfl, TN⟩
              have TN := Lib.hid TN
              clear AP TB e0 e1 e2 e3 e4
              go_wp2_with fail
              go_roundw
              case rel => exact ⟨(a.length + j) + 1, _, by omega, by go_num, TN, Lib.hid (by rw [updT_same]; exact BN.out), Lib.hid (by rw [updT_other _ _ (by decide)]; exact NI.out)⟩
              case measure => simp [intOf]; omega
          · have hkk : kz = a.length + b.length := by omega
            have hkk' : ¬ (kz : Int) < a.length + b.length := by omega
            have BA := Lib.hid (show both okV a b (T 0) from by
              have h := BO.out
              rw [hkk, Nat.add_sub_cancel_left, List.take_length, List.take_of_length_le (by omega)] at h
              exact h)
            clear BO
            go_wp2_with fail
            go_loopw [13, 14] (fun iv kv wx => ∃ (i k : Nat) (U : Nat → List Cell), i ≤ a.length ∧ k ≤ b.length ∧ iv = .int .i64 i ∧ kv = .int .i64 k ∧ Hid (tabs sb w5 wx sb 2 (kz + i + k) U) ∧ Hid (both okV a b (U 0)) ∧ Hid (both okV (a.take i) (b.take k) (U 1))) (fun iv kv _ => a.length + b.length - (intOf iv).toNat - (intOf kv).toNat)
            case atStart => exact ⟨0, 0, T, Nat.zero_le _, Nat.zero_le _, rfl, rfl, TB, BA, Lib.hid (by rw [NI.out]; exact both.start okV)⟩
            case round =>
              clear TB BA NI
              obtain ⟨i, k, U, hi, hk, rfl, rfl, TB, BA, BO⟩ := hrel
              by_cases h1 : i < a.length
              · have h1' : (i : Int) < a.length := by omega
                by_cases h2 : k < b.length
                · have h2' : (k : Int) < b.length := by omega
                  have h2e : ¬ (k : Int) = b.length := by omega
                  by_cases h3 : i + k < ts.length
                  · have h3' : (i : Int) + k < ts.length := by omega
                    obtain ⟨g3, o3, rfl, hg3, hc3⟩ := (T5.out.at TB.out.below (Nat.le_of_eq hsb)) (i + k) _ (List.getElem?_eq_getElem h3)
                    cases hb3 : ts[i + k] with
                    | true =>
                      rw [hb3] at hc3
                      clear hb3
                      have hx := List.getElem?_eq_getElem h1
                      have hsx := SD.out.sa _ (List.getElem_mem h1)
                      generalize a[i] = x at hx hsx
                      obtain ⟨g, o, rfl, e0, e1, e2, e3, e4⟩ := (EA5.out.at TB.out.below (Nat.le_of_eq hsb)).row hx
                      have AP := apply_tabs x TB.out 1 (sb + 1) (by decide) rfl (by omega) hsx
                      have ON := TB.out.once 1 (by decide)
                      have BN := Lib.hid (SD.out.left hx ON BO.out)
                      generalize (if rightE okV x = true then Value.nilIface else errV 1) = rv at AP
                      unfold evV at AP
                      clear BO ON hx hsx
                      go_wp2_with fail
                      refine AP.mono ?_
                      rintro _ w7 ⟨rfl, TN⟩
                      have TN := Lib.hid TN
                      clear AP TB e0 e1 e2 e3 e4
                      go_wp2_with fail
                      go_roundw
                      case rel => exact ⟨i + 1, k, _, by omega, by omega, by go_num, rfl, Lib.hid (by rw [show kz + (i + 1) + k = kz + i + k + 1 by omega]; exact TN.out), Lib.hid (by rw [updT_other _ _ (by decide)]; exact BA.out), Lib.hid (by rw [updT_same]; exact BN.out)⟩
                      case measure => simp [intOf]; omega
                    | false =>
                      rw [hb3] at hc3
                      clear hb3
                      have hx := List.getElem?_eq_getElem h2
                      have hsx := SD.out.sb _ (List.getElem_mem h2)
                      generalize b[k] = x at hx hsx
                      obtain ⟨g, o, rfl, e0, e1, e2, e3, e4⟩ := (EB.out.at TB.out.below (Nat.le_of_eq hsb)).row hx
                      have AP := apply_tabs x TB.out 1 (sb + 1) (by decide) rfl (by omega) hsx
                      have ON := TB.out.once 1 (by decide)
                      have BN := Lib.hid (SD.out.right hx ON BO.out)
                      generalize (if rightE okV x = true then Value.nilIface else errV 1) = rv at AP
                      unfold evV at AP
                      clear BO ON hx hsx
                      go_wp2_with fail
                      refine AP.mono ?_
                      rintro _ w7 ⟨rfl, TN⟩
                      have TN := Lib.hid TN
                      clear AP TB e0 e1 e2 e3 e4
                      go_wp2_with fail
                      go_roundw
                      case rel => exact ⟨i, k + 1, _, by omega, by omega, rfl, by go_num, TN, Lib.hid (by rw [updT_other _ _ (by decide)]; exact BA.out), Lib.hid (by rw [updT_same]; exact BN.out)⟩
                      case measure => simp [intOf]; omega
                  · have h3' : ¬ (i : Int) + k < ts.length := by omega
                    have hx := List.getElem?_eq_getElem h2
                    have hsx := SD.out.sb _ (List.getElem_mem h2)
                    generalize b[k] = x at hx hsx
                    obtain ⟨g, o, rfl, e0, e1, e2, e3, e4⟩ := (EB.out.at TB.out.below (Nat.le_of_eq hsb)).row hx
                    have AP := apply_tabs x TB.out 1 (sb + 1) (by decide) rfl (by omega) hsx
                    have ON := TB.out.once 1 (by decide)
                    have BN := Lib.hid (SD.out.right hx ON BO.out)
                    generalize (if rightE okV x = true then Value.nilIface else errV 1) = rv at AP
                    unfold evV at AP
                    clear BO ON hx hsx
                    go_wp2_with fail
                    refine AP.mono ?_
                    rintro _ w7 ⟨rfl, TN⟩
                    have TN := Lib.hid TN
                    clear AP TB e0 e1 e2 e3 e4
                    go_wp2_with fail
                    go_roundw
                    case rel => exact ⟨i, k + 1, _, by omega, by omega, rfl, by go_num, TN, Lib.hid (by rw [updT_other _ _ (by decide)]; exact BA.out), Lib.hid (by rw [updT_same]; exact BN.out)⟩
                    case measure => simp [intOf]; omega
                · have h2' : ¬ (k : Int) < b.length := by omega
                  have h2e : k = b.length := by omega
                  subst h2e
                  by_cases h3 : i + b.length < ts.length
                  · have h3' : (i : Int) + b.length < ts.length := by omega
                    obtain ⟨g3, o3, rfl, hg3, hc3⟩ := (T5.out.at TB.out.below (Nat.le_of_eq hsb)) (i + b.length) _ (List.getElem?_eq_getElem h3)
                    cases hb3 : ts[i + b.length] with
                    | true =>
                      rw [hb3] at hc3
                      clear hb3
                      have hx := List.getElem?_eq_getElem h1
                      have hsx := SD.out.sa _ (List.getElem_mem h1)
                      generalize a[i] = x at hx hsx
                      obtain ⟨g, o, rfl, e0, e1, e2, e3, e4⟩ := (EA5.out.at TB.out.below (Nat.le_of_eq hsb)).row hx
                      have AP := apply_tabs x TB.out 1 (sb + 1) (by decide) rfl (by omega) hsx
                      have ON := TB.out.once 1 (by decide)
                      have BN := Lib.hid (SD.out.left hx ON BO.out)
                      generalize (if rightE okV x = true then Value.nilIface else errV 1) = rv at AP
                      unfold evV at AP
                      clear BO ON hx hsx
                      go_wp2_with fail
                      refine AP.mono ?_
                      rintro _ w7 ⟨rfl, TN⟩
                      have TN := Lib.hid TN
                      clear AP TB e0 e1 e2 e3 e4
                      go_wp2_with fail
                      go_roundw
                      case rel => exact ⟨i + 1, b.length, _, by omega, by omega, by go_num, rfl, Lib.hid (by rw [show kz + (i + 1) + b.length = kz + i + b.length + 1 by omega]; exact TN.out), Lib.hid (by rw [updT_other _ _ (by decide)]; exact BA.out), Lib.hid (by rw [updT_same]; exact BN.out)⟩
                      case measure => simp [intOf]; omega
                    | false =>
                      rw [hb3] at hc3
                      clear hb3
                      have hx := List.getElem?_eq_getElem h1
                      have hsx := SD.out.sa _ (List.getElem_mem h1)
                      generalize a[i] = x at hx hsx
                      obtain ⟨g, o, rfl, e0, e1, e2, e3, e4⟩ := (EA5.out.at TB.out.below (Nat.le_of_eq hsb)).row hx
                      have AP := apply_tabs x TB.out 1 (sb + 1) (by decide) rfl (by omega) hsx
                      have ON := TB.out.once 1 (by decide)
                      have BN := Lib.hid (SD.out.left hx ON BO.out)
                      generalize (if rightE okV x = true then Value.nilIface else errV 1) = rv at AP
                      unfold evV at AP
                      clear BO ON hx hsx
                      go_wp2_with fail
                      refine AP.mono ?_
                      rintro _ w7 ⟨rfl, TN⟩
                      have TN := Lib.hid TN
                      clear AP TB e0 e1 e2 e3 e4
                      go_wp2_with fail
                      go_roundw
                      case rel => exact ⟨i + 1, b.length, _, by omega, by omega, by go_num, rfl, Lib.hid (by rw [show kz + (i + 1) + b.length = kz + i + b.length + 1 by omega]; exact TN.out), Lib.hid (by rw [updT_other _ _ (by decide)]; exact BA.out), Lib.hid (by rw [updT_same]; exact BN.out)⟩
                      case measure => simp [intOf]; omega
                  · have h3' : ¬ (i : Int) + b.length < ts.length := by omega
                    have hx := List.getElem?_eq_getElem h1
                    have hsx := SD.out.sa _ (List.getElem_mem h1)
                    generalize a[i] = x at hx hsx
                    obtain ⟨g, o, rfl, e0, e1, e2, e3, e4⟩ := (EA5.out.at TB.out.below (Nat.le_of_eq hsb)).row hx
                    have AP := apply_tabs x TB.out 1 (sb + 1) (by decide) rfl (by omega) hsx
                    have ON := TB.out.once 1 (by decide)
                    have BN := Lib.hid (SD.out.left hx ON BO.out)
                    generalize (if rightE okV x = true then Value.nilIface else errV 1) = rv at AP
                    unfold evV at AP
                    clear BO ON hx hsx
                    go_wp2_with fail
                    refine AP.mono ?_
                    rintro _ w7 ⟨rfl, TN⟩
                    have TN := Lib.hid TN
                    clear AP TB e0 e1 e2 e3 e4
                    go_wp2_with fail
                    go_roundw
                    case rel => exact ⟨i + 1, b.length, _, by omega, by omega, by go_num, rfl, Lib.hid (by rw [show kz + (i + 1) + b.length = kz + i + b.length + 1 by omega]; exact TN.out), Lib.hid (by rw [updT_other _ _ (by decide)]; exact BA.out), Lib.hid (by rw [updT_same]; exact BN.out)⟩
                    case measure => simp [intOf]; omega
              · have h1' : ¬ (i : Int) < a.length := by omega
                by_cases h2 : k < b.length
                · have h2' : (k : Int) < b.length := by omega
                  have h2e : ¬ (k : Int) = b.length := by omega
                  by_cases h3 : i + k < ts.length
                  · have h3' : (i : Int) + k < ts.length := by omega
                    obtain ⟨g3, o3, rfl, hg3, hc3⟩ := (T5.out.at TB.out.below (Nat.le_of_eq hsb)) (i + k) _ (List.getElem?_eq_getElem h3)
                    cases hb3 : ts[i + k] with
                    | true =>
                      rw [hb3] at hc3
                      clear hb3
                      have hx := List.getElem?_eq_getElem h2
                      have hsx := SD.out.sb _ (List.getElem_mem h2)
                      generalize b[k] = x at hx hsx
                      obtain ⟨g, o, rfl, e0, e1, e2, e3, e4⟩ := (EB.out.at TB.out.below (Nat.le_of_eq hsb)).row hx
                      have AP := apply_tabs x TB.out 1 (sb + 1) (by decide) rfl (by omega) hsx
                      have ON := TB.out.once 1 (by decide)
                      have BN := Lib.hid (SD.out.right hx ON BO.out)
                      generalize (if rightE okV x = true then Value.nilIface else errV 1) = rv at AP
                      unfold evV at AP
                      clear BO ON hx hsx
                      go_wp2_with fail
                      refine AP.mono ?_
                      rintro _ w7 ⟨rfl, TN⟩
                      have TN := Lib.hid TN
                      clear AP TB e0 e1 e2 e3 e4
                      go_wp2_with fail
                      go_roundw
                      case rel => exact ⟨i, k + 1, _, by omega, by omega, rfl, by go_num, TN, Lib.hid (by rw [updT_other _ _ (by decide)]; exact BA.out), Lib.hid (by rw [updT_same]; exact BN.out)⟩
                      case measure => simp [intOf]; omega
                    | false =>
                      rw [hb3] at hc3
                      clear hb3
                      have hx := List.getElem?_eq_getElem h2
                      have hsx := SD.out.sb _ (List.getElem_mem h2)
                      generalize b[k] = x at hx hsx
                      obtain ⟨g, o, rfl, e0, e1, e2, e3, e4⟩ := (EB.out.at TB.out.below (Nat.le_of_eq hsb)).row hx
                      have AP := apply_tabs x TB.out 1 (sb + 1) (by decide) rfl (by omega) hsx
                      have ON := TB.out.once 1 (by decide)
                      have BN := Lib.hid (SD.out.right hx ON BO.out)
                      generalize (if rightE okV x = true then Value.nilIface else errV 1) = rv at AP
                      unfold evV at AP
                      clear BO ON hx hsx
                      go_wp2_with fail
                      refine AP.mono ?_
                      rintro _ w7 ⟨rfl, TN⟩
                      have TN := Lib.hid TN
                      clear AP TB e0 e1 e2 e3 e4
                      go_wp2_with fail
                      go_roundw
                      case rel => exact ⟨i, k + 1, _, by omega, by omega, rfl, by go_num, TN, Lib.hid (by rw [updT_other _ _ (by decide)]; exact BA.out), Lib.hid (by rw [updT_same]; exact BN.out)⟩
                      case measure => simp [intOf]; omega
                  · have h3' : ¬ (i : Int) + k < ts.length := by omega
                    have hx := List.getElem?_eq_getElem h2
                    have hsx := SD.out.sb _ (List.getElem_mem h2)
                    generalize b[k] = x at hx hsx
                    obtain ⟨g, o, rfl, e0, e1, e2, e3, e4⟩ := (EB.out.at TB.out.below (Nat.le_of_eq hsb)).row hx
                    have AP := apply_tabs x TB.out 1 (sb + 1) (by decide) rfl (by omega) hsx
                    have ON := TB.out.once 1 (by decide)
                    have BN := Lib.hid (SD.out.right hx ON BO.out)
                    generalize (if rightE okV x = true then Value.nilIface else errV 1) = rv at AP
                    unfold evV at AP
                    clear BO ON hx hsx
                    go_wp2_with fail
                    refine AP.mono ?_
                    rintro _ w7 ⟨rfl, TN⟩
                    have TN := Lib.hid TN
                    clear AP TB e0 e1 e2 e3 e4
                    go_wp2_with fail
                    go_roundw
                    case rel => exact ⟨i, k + 1, _, by omega, by omega, rfl, by go_num, TN, Lib.hid (by rw [updT_other _ _ (by decide)]; exact BA.out), Lib.hid (by rw [updT_same]; exact BN.out)⟩
                    case measure => simp [intOf]; omega
                · have h2' : ¬ (k : Int) < b.length := by omega
                  have h2e : k = b.length := by omega
                  subst h2e
                  obtain rfl : i = a.length := by omega
                  rw [List.take_length, List.take_length] at BO
                  have C0 := cells_in (TB.out.one 0 sb (by decide) rfl) (by omega)
                  go_wp2_with fail
                  refine C0.mono ?_
                  rintro _ w8 ⟨v8, c8, rfl, p8, a8, o8, -, B8⟩
                  obtain ⟨q8, cap8, rfl⟩ := rows_shape o8
                  have CI := Lib.hid (cellsIn_of o8).1
                  have T8 := Lib.hid (TB.out.ext (ext_of B8))
                  clear C0 o8
                  have C1 := cells_in (T8.out.one 1 (sb + 1) (by decide) rfl) (by omega)
                  go_wp2_with fail
                  refine C1.mono ?_
                  rintro _ w9 ⟨v9, c9, rfl, p9, a9, o9, -, B9⟩
                  obtain ⟨q9, cap9, rfl⟩ := rows_shape o9
                  have CJ := Lib.hid (cellsIn_of o9).1
                  have CI9 := Lib.hid (rows_at CI.out B9)
                  have T9 := Lib.hid (T8.out.ext (ext_of B9))
                  have hs := both.same BA.out BO.out p8 p9 a8 a9
                  have hn := TB.out.one 0 sb (by decide) rfl
                  have hn8 : c8.length ≤ 9223372036854775807 := by have := hn.len; have := p8.length_eq; omega
                  have EQ := eqC_any q8 q9 cap8 cap9 c8 c9 w9 hn8 (by rw [← hs]; exact hn8) CI9.out CJ.out
                  rw [(allEq_cells c8 c9).2 hs] at EQ
                  clear C1 o9 hs hn hn8 p8 p9 a8 a9 B8 B9 CI T8 TB CJ CI9 BA BO
                  go_wp2_with fail
                  refine EQ.mono ?_
                  rintro _ w10 ⟨rfl, hx⟩
                  have X10 := Lib.hid (ext_trans (ext_trans X5.out (ext_of (by rw [hsb]; exact T9.out.below))) hx)
                  clear EQ hx T9
                  go_wp2_with fail
                  go_ret
                  exact ⟨rfl, X10.out⟩
theorem turns_law (q1 : Option Addr) (cp1 : Nat) (l : List Ev) (q2 : Option Addr) (cp2 : Nat) (m : List Ev) (q3 : Option Addr) (cp3 : Nat) (ts : List Bool) (w : World)
    (hl : l.length ≤ 9223372036854775807) (_ : l.length ≤ cp1) (h1 : evsAt w q1 l) (hm : m.length ≤ 9223372036854775807) (_ : m.length ≤ cp2) (h2 : evsAt w q2 m) (ht : ts.length ≤ 9223372036854775807) (_ : ts.length ≤ cp3) (h3 : boolsAt w q3 ts) :
    Calls Tryd.prog 11 #[.slice q1 l.length cp1, .slice q2 m.length cp2, .slice q3 ts.length cp3] w (Res true w) := turns_any q1 cp1 l q2 cp2 m q3 cp3 ts w hl hm ht h1 h2 h3
end Go.Proofs.YtjjadgcpmfmlfaaDoor
