/- oublietteref.Right (the walk; printed by wip/bin/gen_rright.py). -/
import Derived.Test.YtcbcknfhblamfaaGreatDoorProg
import Derived.Test.YtcbcknfhblamfaaGreatDoorG22
import Derived.Test.YtcbcknfhblamfaaGreatDoorEvRight
namespace Go.Proofs.YtcbcknfhblamfaaGreatDoor
open Go.RowKit

/-- A byte that a value may have. -/
def okC (c : UInt8) : Bool := decide (32 ≤ c.toNat ∧ c.toNat ≤ 126)
def okR (l : List UInt8) : Bool := l.all okC
def accB (B : Bool) (l : List UInt8) (k : Nat) : Bool := B && (l.take k).all okC
theorem acc_zero (B : Bool) (l : List UInt8) : accB B l 0 = B := by simp [accB]
theorem acc_succ (B : Bool) (l : List UInt8) (k : Nat) (h : k < l.length) : accB B l (k + 1) = (accB B l k && okC l[k]) := by
  unfold accB
  rw [show l.take (k + 1) = l.take k ++ [l[k]] by rw [List.take_add_one, List.getElem?_eq_getElem h]; rfl, List.all_append]
  simp [Bool.and_assoc]
theorem acc_all (B : Bool) (l : List UInt8) (k : Nat) (h : l.length ≤ k) : accB B l k = (B && okR l) := by
  unfold accB okR; rw [List.take_of_length_le h]

set_option maxRecDepth 100000 in
set_option maxHeartbeats 1000000 in
theorem rr_put_t (k : Int) (s t r v : ByteArray) (w : World) (hz : s.size ≤ 1048576 ∧ t.size ≤ 1048576 ∧ r.size ≤ 1048576 ∧ v.size ≤ 1048576) (hk : k = 1) (hB : nameB t.data.toList = false) :
    Calls Tryz.prog 15 #[.agg #[.int .i64 k, .string s, .string t, .string r, .string v]] w (Res ((false && okR (txt v)) && nameB s.data.toList) w) := by
  subst hk
  have NhB := fun w => rname_any t w (by omega)
  rw [hB] at NhB
  have NS := fun w => rname_any s w (by omega)
  have HL : Hid (v.data.toList.length = v.size) := Lib.hid (by rw [Array.length_toList]; rfl)
  have HV := Lib.hid hz.2.2.2
  go_enter Tryz.func15, Tryz.ntmps15
  go_wp2_with fail
  refine (NhB _).mono ?_
  rintro _ w1 ⟨rfl, rfl⟩
  go_wp2_with fail
  have H1 := Lib.hid (heap_alloc_at w (.cells #[.int .i64 1, .string s, .string t, .string r, .string v] 33))
  have X1 := Lib.hid (ext_alloc (.cells #[.int .i64 1, .string s, .string t, .string r, .string v] 33) (ext_refl w))
  generalize w.alloc (.cells #[.int .i64 1, .string s, .string t, .string r, .string v] 33) = w1 at H1 X1 ⊢
  obtain ⟨c0, c1, c2, c3, c4⟩ := ev_cells H1.out
  go_loopw [26, 3] (fun iv bv wr => ∃ q : Nat, q ≤ v.size ∧ iv = .int .i64 q ∧ bv = .bool (accB false v.data.toList q) ∧ wr = w1) (fun iv _ _ => v.size - (intOf iv).toNat)
  case atStart => exact ⟨0, Nat.zero_le _, rfl, by rw [acc_zero], rfl⟩
  case round =>
    obtain ⟨q, hq, rfl, rfl, rfl⟩ := hrel
    by_cases hlt : q < v.size
    · have hql : q < v.data.toList.length := by rw [HL.out]; exact hlt
      have HA := Lib.hid (acc_succ false v.data.toList q hql)
      have hgd := get_data0 v q hlt
      rw [List.getD_eq_getElem?_getD, List.getElem?_eq_getElem hql, Option.getD_some] at hgd
      rw [← hgd] at HA
      have hv := HV.out
      cases hacc : accB false v.data.toList q with
      | false =>
        rw [hacc] at HA
        have HA := Lib.hid (HA.out.trans (Bool.false_and _))
        clear hacc hgd
        go_wp2_with fail
        go_roundw
        case rel => exact ⟨q + 1, by omega, by go_num, by rw [HA.out], by first | rfl | trivial⟩
        case measure => simp [intOf]; omega
      | true =>
        rw [hacc, Bool.true_and] at HA
        clear hacc hgd
        by_cases a1 : (32 : Int) ≤ (v[q]'hlt).toNat
        · by_cases a2 : ((v[q]'hlt).toNat : Int) ≤ 126
          · have HA := Lib.hid (HA.out.trans (show okC (v[q]'hlt) = true by unfold okC; rw [decide_eq_true_iff]; omega))
            go_wp2_with fail
            go_roundw
            case rel => exact ⟨q + 1, by omega, by go_num, by rw [HA.out], by first | rfl | trivial⟩
            case measure => simp [intOf]; omega
          · have HA := Lib.hid (HA.out.trans (show okC (v[q]'hlt) = false by unfold okC; rw [decide_eq_false_iff_not]; omega))
            go_wp2_with fail
            go_roundw
            case rel => exact ⟨q + 1, by omega, by go_num, by rw [HA.out], by first | rfl | trivial⟩
            case measure => simp [intOf]; omega
        · have HA := Lib.hid (HA.out.trans (show okC (v[q]'hlt) = false by unfold okC; rw [decide_eq_false_iff_not]; omega))
          go_wp2_with fail
          go_roundw
          case rel => exact ⟨q + 1, by omega, by go_num, by rw [HA.out], by first | rfl | trivial⟩
          case measure => simp [intOf]; omega
    · obtain rfl : q = v.size := by omega
      have hZ := acc_all false v.data.toList v.size (by rw [HL.out]; exact Nat.le_refl _)
      rw [hZ]
      have HZ : Hid ((false && okR v.data.toList) = (false && okR (txt v))) := Lib.hid rfl
      generalize (false && okR v.data.toList) = Z at HZ ⊢
      clear hZ
      cases Z with
      | false =>
        go_wp2_with fail
        go_ret
        exact ⟨by rw [← HZ.out]; rfl, X1.out⟩
      | true =>
        go_wp2_with fail
        refine (NS _).mono ?_
        rintro _ w3 ⟨rfl, rfl⟩
        go_wp2_with fail
        go_ret
        exact ⟨by rw [← HZ.out]; simp, X1.out⟩
set_option maxRecDepth 100000 in
set_option maxHeartbeats 1000000 in
theorem rr_put_r (k : Int) (s t r v : ByteArray) (w : World) (hz : s.size ≤ 1048576 ∧ t.size ≤ 1048576 ∧ r.size ≤ 1048576 ∧ v.size ≤ 1048576) (hk : k = 1) (hB : nameB t.data.toList = true) (hC : nameB r.data.toList = false) :
    Calls Tryz.prog 15 #[.agg #[.int .i64 k, .string s, .string t, .string r, .string v]] w (Res ((false && okR (txt v)) && nameB s.data.toList) w) := by
  subst hk
  have NhB := fun w => rname_any t w (by omega)
  rw [hB] at NhB
  have NhC := fun w => rname_any r w (by omega)
  rw [hC] at NhC
  have NS := fun w => rname_any s w (by omega)
  have HL : Hid (v.data.toList.length = v.size) := Lib.hid (by rw [Array.length_toList]; rfl)
  have HV := Lib.hid hz.2.2.2
  go_enter Tryz.func15, Tryz.ntmps15
  go_wp2_with fail
  refine (NhB _).mono ?_
  rintro _ w1 ⟨rfl, rfl⟩
  go_wp2_with fail
  refine (NhC _).mono ?_
  rintro _ w1 ⟨rfl, rfl⟩
  go_wp2_with fail
  have H1 := Lib.hid (heap_alloc_at w (.cells #[.int .i64 1, .string s, .string t, .string r, .string v] 33))
  have X1 := Lib.hid (ext_alloc (.cells #[.int .i64 1, .string s, .string t, .string r, .string v] 33) (ext_refl w))
  generalize w.alloc (.cells #[.int .i64 1, .string s, .string t, .string r, .string v] 33) = w1 at H1 X1 ⊢
  obtain ⟨c0, c1, c2, c3, c4⟩ := ev_cells H1.out
  go_loopw [26, 3] (fun iv bv wr => ∃ q : Nat, q ≤ v.size ∧ iv = .int .i64 q ∧ bv = .bool (accB false v.data.toList q) ∧ wr = w1) (fun iv _ _ => v.size - (intOf iv).toNat)
  case atStart => exact ⟨0, Nat.zero_le _, rfl, by rw [acc_zero], rfl⟩
  case round =>
    obtain ⟨q, hq, rfl, rfl, rfl⟩ := hrel
    by_cases hlt : q < v.size
    · have hql : q < v.data.toList.length := by rw [HL.out]; exact hlt
      have HA := Lib.hid (acc_succ false v.data.toList q hql)
      have hgd := get_data0 v q hlt
      rw [List.getD_eq_getElem?_getD, List.getElem?_eq_getElem hql, Option.getD_some] at hgd
      rw [← hgd] at HA
      have hv := HV.out
      cases hacc : accB false v.data.toList q with
      | false =>
        rw [hacc] at HA
        have HA := Lib.hid (HA.out.trans (Bool.false_and _))
        clear hacc hgd
        go_wp2_with fail
        go_roundw
        case rel => exact ⟨q + 1, by omega, by go_num, by rw [HA.out], by first | rfl | trivial⟩
        case measure => simp [intOf]; omega
      | true =>
        rw [hacc, Bool.true_and] at HA
        clear hacc hgd
        by_cases a1 : (32 : Int) ≤ (v[q]'hlt).toNat
        · by_cases a2 : ((v[q]'hlt).toNat : Int) ≤ 126
          · have HA := Lib.hid (HA.out.trans (show okC (v[q]'hlt) = true by unfold okC; rw [decide_eq_true_iff]; omega))
            go_wp2_with fail
            go_roundw
            case rel => exact ⟨q + 1, by omega, by go_num, by rw [HA.out], by first | rfl | trivial⟩
            case measure => simp [intOf]; omega
          · have HA := Lib.hid (HA.out.trans (show okC (v[q]'hlt) = false by unfold okC; rw [decide_eq_false_iff_not]; omega))
            go_wp2_with fail
            go_roundw
            case rel => exact ⟨q + 1, by omega, by go_num, by rw [HA.out], by first | rfl | trivial⟩
            case measure => simp [intOf]; omega
        · have HA := Lib.hid (HA.out.trans (show okC (v[q]'hlt) = false by unfold okC; rw [decide_eq_false_iff_not]; omega))
          go_wp2_with fail
          go_roundw
          case rel => exact ⟨q + 1, by omega, by go_num, by rw [HA.out], by first | rfl | trivial⟩
          case measure => simp [intOf]; omega
    · obtain rfl : q = v.size := by omega
      have hZ := acc_all false v.data.toList v.size (by rw [HL.out]; exact Nat.le_refl _)
      rw [hZ]
      have HZ : Hid ((false && okR v.data.toList) = (false && okR (txt v))) := Lib.hid rfl
      generalize (false && okR v.data.toList) = Z at HZ ⊢
      clear hZ
      cases Z with
      | false =>
        go_wp2_with fail
        go_ret
        exact ⟨by rw [← HZ.out]; rfl, X1.out⟩
      | true =>
        go_wp2_with fail
        refine (NS _).mono ?_
        rintro _ w3 ⟨rfl, rfl⟩
        go_wp2_with fail
        go_ret
        exact ⟨by rw [← HZ.out]; simp, X1.out⟩
set_option maxRecDepth 100000 in
set_option maxHeartbeats 1000000 in
theorem rr_put_l (k : Int) (s t r v : ByteArray) (w : World) (hz : s.size ≤ 1048576 ∧ t.size ≤ 1048576 ∧ r.size ≤ 1048576 ∧ v.size ≤ 1048576) (hk : k = 1) (hB : nameB t.data.toList = true) (hC : nameB r.data.toList = true) (hD : ¬ (v.size : Int) ≤ 20) :
    Calls Tryz.prog 15 #[.agg #[.int .i64 k, .string s, .string t, .string r, .string v]] w (Res ((false && okR (txt v)) && nameB s.data.toList) w) := by
  subst hk
  have NhB := fun w => rname_any t w (by omega)
  rw [hB] at NhB
  have NhC := fun w => rname_any r w (by omega)
  rw [hC] at NhC
  have NS := fun w => rname_any s w (by omega)
  have HL : Hid (v.data.toList.length = v.size) := Lib.hid (by rw [Array.length_toList]; rfl)
  have HV := Lib.hid hz.2.2.2
  go_enter Tryz.func15, Tryz.ntmps15
  go_wp2_with fail
  refine (NhB _).mono ?_
  rintro _ w1 ⟨rfl, rfl⟩
  go_wp2_with fail
  refine (NhC _).mono ?_
  rintro _ w1 ⟨rfl, rfl⟩
  go_wp2_with fail
  have H1 := Lib.hid (heap_alloc_at w (.cells #[.int .i64 1, .string s, .string t, .string r, .string v] 33))
  have X1 := Lib.hid (ext_alloc (.cells #[.int .i64 1, .string s, .string t, .string r, .string v] 33) (ext_refl w))
  generalize w.alloc (.cells #[.int .i64 1, .string s, .string t, .string r, .string v] 33) = w1 at H1 X1 ⊢
  obtain ⟨c0, c1, c2, c3, c4⟩ := ev_cells H1.out
  go_loopw [26, 3] (fun iv bv wr => ∃ q : Nat, q ≤ v.size ∧ iv = .int .i64 q ∧ bv = .bool (accB false v.data.toList q) ∧ wr = w1) (fun iv _ _ => v.size - (intOf iv).toNat)
  case atStart => exact ⟨0, Nat.zero_le _, rfl, by rw [acc_zero]; exact congrArg Value.bool (decide_eq_false (by omega)), rfl⟩
  case round =>
    obtain ⟨q, hq, rfl, rfl, rfl⟩ := hrel
    by_cases hlt : q < v.size
    · have hql : q < v.data.toList.length := by rw [HL.out]; exact hlt
      have HA := Lib.hid (acc_succ false v.data.toList q hql)
      have hgd := get_data0 v q hlt
      rw [List.getD_eq_getElem?_getD, List.getElem?_eq_getElem hql, Option.getD_some] at hgd
      rw [← hgd] at HA
      have hv := HV.out
      cases hacc : accB false v.data.toList q with
      | false =>
        rw [hacc] at HA
        have HA := Lib.hid (HA.out.trans (Bool.false_and _))
        clear hacc hgd
        go_wp2_with fail
        go_roundw
        case rel => exact ⟨q + 1, by omega, by go_num, by rw [HA.out], by first | rfl | trivial⟩
        case measure => simp [intOf]; omega
      | true =>
        rw [hacc, Bool.true_and] at HA
        clear hacc hgd
        by_cases a1 : (32 : Int) ≤ (v[q]'hlt).toNat
        · by_cases a2 : ((v[q]'hlt).toNat : Int) ≤ 126
          · have HA := Lib.hid (HA.out.trans (show okC (v[q]'hlt) = true by unfold okC; rw [decide_eq_true_iff]; omega))
            go_wp2_with fail
            go_roundw
            case rel => exact ⟨q + 1, by omega, by go_num, by rw [HA.out], by first | rfl | trivial⟩
            case measure => simp [intOf]; omega
          · have HA := Lib.hid (HA.out.trans (show okC (v[q]'hlt) = false by unfold okC; rw [decide_eq_false_iff_not]; omega))
            go_wp2_with fail
            go_roundw
            case rel => exact ⟨q + 1, by omega, by go_num, by rw [HA.out], by first | rfl | trivial⟩
            case measure => simp [intOf]; omega
        · have HA := Lib.hid (HA.out.trans (show okC (v[q]'hlt) = false by unfold okC; rw [decide_eq_false_iff_not]; omega))
          go_wp2_with fail
          go_roundw
          case rel => exact ⟨q + 1, by omega, by go_num, by rw [HA.out], by first | rfl | trivial⟩
          case measure => simp [intOf]; omega
    · obtain rfl : q = v.size := by omega
      have hZ := acc_all false v.data.toList v.size (by rw [HL.out]; exact Nat.le_refl _)
      rw [hZ]
      have HZ : Hid ((false && okR v.data.toList) = (false && okR (txt v))) := Lib.hid rfl
      generalize (false && okR v.data.toList) = Z at HZ ⊢
      clear hZ
      cases Z with
      | false =>
        go_wp2_with fail
        go_ret
        exact ⟨by rw [← HZ.out]; rfl, X1.out⟩
      | true =>
        go_wp2_with fail
        refine (NS _).mono ?_
        rintro _ w3 ⟨rfl, rfl⟩
        go_wp2_with fail
        go_ret
        exact ⟨by rw [← HZ.out]; simp, X1.out⟩
set_option maxRecDepth 100000 in
set_option maxHeartbeats 1000000 in
theorem rr_put (k : Int) (s t r v : ByteArray) (w : World) (hz : s.size ≤ 1048576 ∧ t.size ≤ 1048576 ∧ r.size ≤ 1048576 ∧ v.size ≤ 1048576) (hk : k = 1) (hB : nameB t.data.toList = true) (hC : nameB r.data.toList = true) (hD : (v.size : Int) ≤ 20) :
    Calls Tryz.prog 15 #[.agg #[.int .i64 k, .string s, .string t, .string r, .string v]] w (Res ((true && okR (txt v)) && nameB s.data.toList) w) := by
  subst hk
  have NhB := fun w => rname_any t w (by omega)
  rw [hB] at NhB
  have NhC := fun w => rname_any r w (by omega)
  rw [hC] at NhC
  have NS := fun w => rname_any s w (by omega)
  have HL : Hid (v.data.toList.length = v.size) := Lib.hid (by rw [Array.length_toList]; rfl)
  have HV := Lib.hid hz.2.2.2
  go_enter Tryz.func15, Tryz.ntmps15
  go_wp2_with fail
  refine (NhB _).mono ?_
  rintro _ w1 ⟨rfl, rfl⟩
  go_wp2_with fail
  refine (NhC _).mono ?_
  rintro _ w1 ⟨rfl, rfl⟩
  go_wp2_with fail
  have H1 := Lib.hid (heap_alloc_at w (.cells #[.int .i64 1, .string s, .string t, .string r, .string v] 33))
  have X1 := Lib.hid (ext_alloc (.cells #[.int .i64 1, .string s, .string t, .string r, .string v] 33) (ext_refl w))
  generalize w.alloc (.cells #[.int .i64 1, .string s, .string t, .string r, .string v] 33) = w1 at H1 X1 ⊢
  obtain ⟨c0, c1, c2, c3, c4⟩ := ev_cells H1.out
  go_loopw [26, 3] (fun iv bv wr => ∃ q : Nat, q ≤ v.size ∧ iv = .int .i64 q ∧ bv = .bool (accB true v.data.toList q) ∧ wr = w1) (fun iv _ _ => v.size - (intOf iv).toNat)
  case atStart => exact ⟨0, Nat.zero_le _, rfl, by rw [acc_zero], rfl⟩
  case round =>
    obtain ⟨q, hq, rfl, rfl, rfl⟩ := hrel
    by_cases hlt : q < v.size
    · have hql : q < v.data.toList.length := by rw [HL.out]; exact hlt
      have HA := Lib.hid (acc_succ true v.data.toList q hql)
      have hgd := get_data0 v q hlt
      rw [List.getD_eq_getElem?_getD, List.getElem?_eq_getElem hql, Option.getD_some] at hgd
      rw [← hgd] at HA
      have hv := HV.out
      cases hacc : accB true v.data.toList q with
      | false =>
        rw [hacc] at HA
        have HA := Lib.hid (HA.out.trans (Bool.false_and _))
        clear hacc hgd
        go_wp2_with fail
        go_roundw
        case rel => exact ⟨q + 1, by omega, by go_num, by rw [HA.out], by first | rfl | trivial⟩
        case measure => simp [intOf]; omega
      | true =>
        rw [hacc, Bool.true_and] at HA
        clear hacc hgd
        by_cases a1 : (32 : Int) ≤ (v[q]'hlt).toNat
        · by_cases a2 : ((v[q]'hlt).toNat : Int) ≤ 126
          · have HA := Lib.hid (HA.out.trans (show okC (v[q]'hlt) = true by unfold okC; rw [decide_eq_true_iff]; omega))
            go_wp2_with fail
            go_roundw
            case rel => exact ⟨q + 1, by omega, by go_num, by rw [HA.out], by first | rfl | trivial⟩
            case measure => simp [intOf]; omega
          · have HA := Lib.hid (HA.out.trans (show okC (v[q]'hlt) = false by unfold okC; rw [decide_eq_false_iff_not]; omega))
            go_wp2_with fail
            go_roundw
            case rel => exact ⟨q + 1, by omega, by go_num, by rw [HA.out], by first | rfl | trivial⟩
            case measure => simp [intOf]; omega
        · have HA := Lib.hid (HA.out.trans (show okC (v[q]'hlt) = false by unfold okC; rw [decide_eq_false_iff_not]; omega))
          go_wp2_with fail
          go_roundw
          case rel => exact ⟨q + 1, by omega, by go_num, by rw [HA.out], by first | rfl | trivial⟩
          case measure => simp [intOf]; omega
    · obtain rfl : q = v.size := by omega
      have hZ := acc_all true v.data.toList v.size (by rw [HL.out]; exact Nat.le_refl _)
      rw [hZ]
      have HZ : Hid ((true && okR v.data.toList) = (true && okR (txt v))) := Lib.hid rfl
      generalize (true && okR v.data.toList) = Z at HZ ⊢
      clear hZ
      cases Z with
      | false =>
        go_wp2_with fail
        go_ret
        exact ⟨by rw [← HZ.out]; rfl, X1.out⟩
      | true =>
        go_wp2_with fail
        refine (NS _).mono ?_
        rintro _ w3 ⟨rfl, rfl⟩
        go_wp2_with fail
        go_ret
        exact ⟨by rw [← HZ.out]; simp, X1.out⟩
set_option maxRecDepth 100000 in
set_option maxHeartbeats 1000000 in
theorem rr_del_t (k : Int) (s t r v : ByteArray) (w : World) (hz : s.size ≤ 1048576 ∧ t.size ≤ 1048576 ∧ r.size ≤ 1048576 ∧ v.size ≤ 1048576) (hk : k = 2) (hB : nameB t.data.toList = false) :
    Calls Tryz.prog 15 #[.agg #[.int .i64 k, .string s, .string t, .string r, .string v]] w (Res (false) w) := by
  subst hk
  have NhB := fun w => rname_any t w (by omega)
  rw [hB] at NhB
  have NS := fun w => rname_any s w (by omega)
  go_enter Tryz.func15, Tryz.ntmps15
  go_wp2_with fail
  refine (NhB _).mono ?_
  rintro _ w1 ⟨rfl, rfl⟩
  go_wp2_with fail
  go_ret
  exact ⟨by first | rfl | simp, ext_alloc _ (ext_refl w)⟩
set_option maxRecDepth 100000 in
set_option maxHeartbeats 1000000 in
theorem rr_del_r (k : Int) (s t r v : ByteArray) (w : World) (hz : s.size ≤ 1048576 ∧ t.size ≤ 1048576 ∧ r.size ≤ 1048576 ∧ v.size ≤ 1048576) (hk : k = 2) (hB : nameB t.data.toList = true) (hC : nameB r.data.toList = false) :
    Calls Tryz.prog 15 #[.agg #[.int .i64 k, .string s, .string t, .string r, .string v]] w (Res (false) w) := by
  subst hk
  have NhB := fun w => rname_any t w (by omega)
  rw [hB] at NhB
  have NhC := fun w => rname_any r w (by omega)
  rw [hC] at NhC
  have NS := fun w => rname_any s w (by omega)
  go_enter Tryz.func15, Tryz.ntmps15
  go_wp2_with fail
  refine (NhB _).mono ?_
  rintro _ w1 ⟨rfl, rfl⟩
  go_wp2_with fail
  refine (NhC _).mono ?_
  rintro _ w1 ⟨rfl, rfl⟩
  go_wp2_with fail
  go_ret
  exact ⟨by first | rfl | simp, ext_alloc _ (ext_refl w)⟩
set_option maxRecDepth 100000 in
set_option maxHeartbeats 1000000 in
theorem rr_del_v (k : Int) (s t r v : ByteArray) (w : World) (hz : s.size ≤ 1048576 ∧ t.size ≤ 1048576 ∧ r.size ≤ 1048576 ∧ v.size ≤ 1048576) (hk : k = 2) (hB : nameB t.data.toList = true) (hC : nameB r.data.toList = true) (hv : v.toList.isEmpty = false) :
    Calls Tryz.prog 15 #[.agg #[.int .i64 k, .string s, .string t, .string r, .string v]] w (Res (false) w) := by
  subst hk
  have NhB := fun w => rname_any t w (by omega)
  rw [hB] at NhB
  have NhC := fun w => rname_any r w (by omega)
  rw [hC] at NhC
  have NS := fun w => rname_any s w (by omega)
  go_enter Tryz.func15, Tryz.ntmps15
  go_wp2_with fail
  refine (NhB _).mono ?_
  rintro _ w1 ⟨rfl, rfl⟩
  go_wp2_with fail
  refine (NhC _).mono ?_
  rintro _ w1 ⟨rfl, rfl⟩
  go_wp2_with fail
  go_ret
  exact ⟨by first | rfl | simp, ext_alloc _ (ext_refl w)⟩
set_option maxRecDepth 100000 in
set_option maxHeartbeats 1000000 in
theorem rr_del (k : Int) (s t r v : ByteArray) (w : World) (hz : s.size ≤ 1048576 ∧ t.size ≤ 1048576 ∧ r.size ≤ 1048576 ∧ v.size ≤ 1048576) (hk : k = 2) (hB : nameB t.data.toList = true) (hC : nameB r.data.toList = true) (hv : v.toList.isEmpty = true) :
    Calls Tryz.prog 15 #[.agg #[.int .i64 k, .string s, .string t, .string r, .string v]] w (Res (nameB s.data.toList) w) := by
  subst hk
  have NhB := fun w => rname_any t w (by omega)
  rw [hB] at NhB
  have NhC := fun w => rname_any r w (by omega)
  rw [hC] at NhC
  have NS := fun w => rname_any s w (by omega)
  go_enter Tryz.func15, Tryz.ntmps15
  go_wp2_with fail
  refine (NhB _).mono ?_
  rintro _ w1 ⟨rfl, rfl⟩
  go_wp2_with fail
  refine (NhC _).mono ?_
  rintro _ w1 ⟨rfl, rfl⟩
  go_wp2_with fail
  refine (NS _).mono ?_
  rintro _ w3 ⟨rfl, rfl⟩
  go_wp2_with fail
  go_ret
  exact ⟨by first | rfl | simp, ext_alloc _ (ext_refl w)⟩
set_option maxRecDepth 100000 in
set_option maxHeartbeats 1000000 in
theorem rr_gone_no (k : Int) (s t r v : ByteArray) (w : World) (hz : s.size ≤ 1048576 ∧ t.size ≤ 1048576 ∧ r.size ≤ 1048576 ∧ v.size ≤ 1048576) (hk : k = 3) (hv : (t ++ r ++ v).toList.isEmpty = false) :
    Calls Tryz.prog 15 #[.agg #[.int .i64 k, .string s, .string t, .string r, .string v]] w (Res (false) w) := by
  subst hk
  have NS := fun w => rname_any s w (by omega)
  go_enter Tryz.func15, Tryz.ntmps15
  go_wp2_with fail
  go_ret
  exact ⟨by first | rfl | simp, ext_alloc _ (ext_refl w)⟩
set_option maxRecDepth 100000 in
set_option maxHeartbeats 1000000 in
theorem rr_gone (k : Int) (s t r v : ByteArray) (w : World) (hz : s.size ≤ 1048576 ∧ t.size ≤ 1048576 ∧ r.size ≤ 1048576 ∧ v.size ≤ 1048576) (hk : k = 3) (hv : (t ++ r ++ v).toList.isEmpty = true) :
    Calls Tryz.prog 15 #[.agg #[.int .i64 k, .string s, .string t, .string r, .string v]] w (Res (nameB s.data.toList) w) := by
  subst hk
  have NS := fun w => rname_any s w (by omega)
  go_enter Tryz.func15, Tryz.ntmps15
  go_wp2_with fail
  refine (NS _).mono ?_
  rintro _ w3 ⟨rfl, rfl⟩
  go_wp2_with fail
  go_ret
  exact ⟨by first | rfl | simp, ext_alloc _ (ext_refl w)⟩
set_option maxRecDepth 100000 in
set_option maxHeartbeats 1000000 in
theorem rr_other (k : Int) (s t r v : ByteArray) (w : World) (hz : s.size ≤ 1048576 ∧ t.size ≤ 1048576 ∧ r.size ≤ 1048576 ∧ v.size ≤ 1048576) (k1 : (k == 1) = false) (k2 : (k == 2) = false) (k3 : (k == 3) = false) :
    Calls Tryz.prog 15 #[.agg #[.int .i64 k, .string s, .string t, .string r, .string v]] w (Res (false) w) := by
  have hs := hz.1
  go_enter Tryz.func15, Tryz.ntmps15
  go_wp2_with fail
  go_ret
  exact ⟨rfl, ext_alloc _ (ext_refl w)⟩
/-- What oublietteref.Right answers. -/
theorem rright_any (e : Ev) (w : World) (hz : e.subject.size ≤ 1048576 ∧ e.table.size ≤ 1048576 ∧ e.row.size ≤ 1048576 ∧ e.value.size ≤ 1048576) :
    Calls Tryz.prog 15 #[.agg (evV e)] w (Res (rightE okR e) w) := by
  obtain ⟨k, s, t, r, v⟩ := e
  unfold rightE
  show Calls Tryz.prog 15 #[.agg #[.int .i64 k, .string s, .string t, .string r, .string v]] w _
  dsimp only at hz ⊢
  rw [Bool.and_comm]
  unfold txt
  by_cases k1 : k = 1
  · rw [if_pos k1]
    cases hB : nameB t.data.toList with
    | false => simpa using rr_put_t k s t r v w hz k1 hB
    | true =>
      cases hC : nameB r.data.toList with
      | false => simpa using rr_put_r k s t r v w hz k1 hB hC
      | true =>
        by_cases hD : (v.size : Int) ≤ 20
        · have := rr_put k s t r v w hz k1 hB hC hD
          rw [show decide (v.size ≤ 20) = true by rw [decide_eq_true_iff]; omega]
          exact this
        · have := rr_put_l k s t r v w hz k1 hB hC hD
          rw [show decide (v.size ≤ 20) = false by rw [decide_eq_false_iff_not]; omega]
          simpa using this
  · rw [if_neg k1]
    by_cases k2 : k = 2
    · rw [if_pos k2]
      cases hB : nameB t.data.toList with
      | false => simpa using rr_del_t k s t r v w hz k2 hB
      | true =>
        cases hC : nameB r.data.toList with
        | false => simpa using rr_del_r k s t r v w hz k2 hB hC
        | true =>
          cases hv : v.toList.isEmpty with
          | false =>
            have := rr_del_v k s t r v w hz k2 hB hC hv
            rw [isEmpty_is] at hv
            rw [hv]; simpa using this
          | true =>
            have := rr_del k s t r v w hz k2 hB hC hv
            rw [isEmpty_is] at hv
            rw [hv]; simpa using this
    · rw [if_neg k2]
      by_cases k3 : k = 3
      · rw [if_pos k3]
        have hsum : (t ++ r ++ v).toList.isEmpty = (decide (t.size = 0) && decide (r.size = 0) && decide (v.size = 0)) := by
          rw [isEmpty_is, ByteArray.size_append, ByteArray.size_append, Bool.eq_iff_iff]
          simp only [Bool.and_eq_true, decide_eq_true_eq]; omega
        cases hv : (t ++ r ++ v).toList.isEmpty with
        | false =>
          have := rr_gone_no k s t r v w hz k3 hv
          rw [← hsum, hv]; simpa using this
        | true =>
          have := rr_gone k s t r v w hz k3 hv
          rw [← hsum, hv]; simpa using this
      · rw [if_neg k3]
        exact rr_other k s t r v w hz (by simpa using k1) (by simpa using k2) (by simpa using k3)
end Go.Proofs.YtcbcknfhblamfaaGreatDoor
