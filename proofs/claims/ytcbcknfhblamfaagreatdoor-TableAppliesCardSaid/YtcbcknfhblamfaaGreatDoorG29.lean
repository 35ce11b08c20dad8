/- errors.As, api.Tell, plain.Place at nil and at an api.Errno. · oubliettelaw.StreamBlocks (the walk). -/
import Derived.Test.YtcbcknfhblamfaaGreatDoorErr
import Derived.Test.YtcbcknfhblamfaaGreatDoorProg
import Derived.Test.YtcbcknfhblamfaaGreatDoorG28
namespace Go.Proofs.YtcbcknfhblamfaaGreatDoor
open Go.RowKit Go.Extern.Stop Go.Stop Go.Extern

/-- What package errors' variable holds: the handle of the type error. -/
def ErrT (w : World) : Prop := w.cell? ⟨0, 0, none⟩ = some (.iface 94 (.agg #[rt 36]))

theorem methodKind (h : Value) (w : World) : (Go.method 293 94 (.agg #[h]) "Kind").run Tryz.prog w = .ok (119, h) w := by kernel_rfl
theorem methodElem (h : Value) (w : World) : (Go.method 293 94 (.agg #[h]) "Elem").run Tryz.prog w = .ok (128, .agg #[h]) w := by kernel_rfl
theorem methodImpl (h : Value) (w : World) : (Go.method 293 94 (.agg #[h]) "Implements").run Tryz.prog w = .ok (129, .agg #[h]) w := by kernel_rfl
theorem methodAssign (h : Value) (w : World) : (Go.method 293 94 (.agg #[h]) "AssignableTo").run Tryz.prog w = .ok (127, .agg #[h]) w := by kernel_rfl

set_option maxRecDepth 100000 in
set_option maxHeartbeats 4000000 in
theorem as_hit (n : Int) (b : Nat) (w : World) (hE : ErrT w) (hb : w.heap[b]? = some (.cells #[.int .i64 0] 38 (0, 0))) :
    Calls Tryz.prog 34 #[.iface 38 (.int .i64 n), .iface 88 (.pointer (some ⟨b, 0, none⟩))] w fun r w' =>
      r = .returned (.bool true) ∧ w.grownBy w' (some b) ∧ w'.heap[b]? = some (.cells #[.int .i64 n] 38 (0, 0)) := by
  have h6 := @run_callFunc_extern Tryz.prog 26 _ (fun args => ReflectliteValue.unpack (args.getD 0 (.tuple #[]))) Tryz.func26 (by kernel_rfl) (by kernel_rfl) (by kernel_rfl) (by kernel_rfl)
  have h7 := @run_callFunc_extern Tryz.prog 67 _ (ReflectliteValue.methodAny (ReflectliteValue.valueError "reflectlite.Value.Type" 0) (fun t _ _ _ => ReflectliteType.toType t)) Tryz.func67 (by kernel_rfl) (by kernel_rfl) (by kernel_rfl) (by kernel_rfl)
  have h8 := @run_callFunc_extern Tryz.prog 68 _ (ReflectliteValue.method (ReflectliteValue.valueError "reflectlite.Value.IsNil" 0) ReflectliteValue.isNil) Tryz.func68 (by kernel_rfl) (by kernel_rfl) (by kernel_rfl) (by kernel_rfl)
  have h27 := @run_callFunc_extern Tryz.prog 119 _ (ReflectliteType.abiMethod fun t => do pure (.int .u8 (← Rtype.kind t))) Tryz.func119 (by kernel_rfl) (by kernel_rfl) (by kernel_rfl) (by kernel_rfl)
  have h37 := @run_callFunc_extern Tryz.prog 128 _ (ReflectliteType.method ReflectliteType.elem) Tryz.func128 (by kernel_rfl) (by kernel_rfl) (by kernel_rfl) (by kernel_rfl)
  have h38 := @run_callFunc_extern Tryz.prog 129 _ (ReflectliteType.relation "Implements" ReflectliteType.implements_) Tryz.func129 (by kernel_rfl) (by kernel_rfl) (by kernel_rfl) (by kernel_rfl)
  have h10 := @run_callFunc_extern Tryz.prog 89 _ ReflectliteType.typeOf Tryz.func89 (by kernel_rfl) (by kernel_rfl) (by kernel_rfl) (by kernel_rfl)
  have h35 := @run_callFunc_extern Tryz.prog 127 _ (ReflectliteType.relation "AssignableTo" ReflectliteType.assignableTo) Tryz.func127 (by kernel_rfl) (by kernel_rfl) (by kernel_rfl) (by kernel_rfl)
  have h11 := @run_callFunc_extern Tryz.prog 90 _ (ReflectliteValue.method (ReflectliteValue.valueError "reflectlite.Value.Elem" 0) ReflectliteValue.elem) Tryz.func90 (by kernel_rfl) (by kernel_rfl) (by kernel_rfl) (by kernel_rfl)
  have h12 := @run_callFunc_extern Tryz.prog 91 _ ReflectliteValue.set Tryz.func91 (by kernel_rfl) (by kernel_rfl) (by kernel_rfl) (by kernel_rfl)
  have lb := lt_of_heap hb
  have H := Lib.hid hb
  have c0 : w.cell? ⟨b, 0, none⟩ = some (.int .i64 0) := by rw [cell_in, hb]; rfl
  have f0 := free_of_heap hb 0
  clear hb
  have tO := typeOfE
  have aE := assignE
  have vE := valueOfE
  have f6 := valueOfP
  have f7 := typeP
  have kP := kindP
  have kE := kindE
  have eP := elemP
  have iE := implE
  have hE' : w.cell? ⟨0, 0, none⟩ = some (.iface 94 (.agg #[rt 36])) := hE
  clear hE
  have hlt : 0 < w.heap.size := by
    rcases Nat.lt_or_ge 0 w.heap.size with h | h
    · exact h
    · simp [World.cell?, Array.getElem?_eq_none h] at hE'
  have mK := methodKind
  have mE := methodElem
  have mI := methodImpl
  have mA := methodAssign
  have n8 := isNilP ⟨w.heap.size, 0, none⟩ ⟨b, 0, none⟩ ((w.alloc (.cells #[.pointer (some ⟨b, 0, none⟩)] 88)).alloc (.cells #[rt 88, .pointer (some ⟨w.heap.size, 0, none⟩), .int .u64 150] 74)) (by simp)
  have hg2 : ((w.alloc (.cells #[.pointer (some ⟨b, 0, none⟩)] 88)).alloc (.cells #[rt 88, .pointer (some ⟨w.heap.size, 0, none⟩), .int .u64 150] 74)).cell? ⟨0, 0, none⟩ = some (.iface 94 (.agg #[rt 36])) := by
    rw [World.cell?_alloc_lt _ _ ⟨0, 0, none⟩ (by simp <;> omega), World.cell?_alloc_lt _ _ ⟨0, 0, none⟩ hlt]; exact hE'
  have el := elemVP ⟨w.heap.size, 0, none⟩ ⟨b, 0, none⟩ (((w.alloc (.cells #[.pointer (some ⟨b, 0, none⟩)] 88)).alloc (.cells #[rt 88, .pointer (some ⟨w.heap.size, 0, none⟩), .int .u64 150] 74)).alloc (.cells #[rt 88, .pointer (some ⟨w.heap.size, 0, none⟩), .int .u64 150] 74)) (by rw [World.cell?_alloc_lt _ _ ⟨w.heap.size, 0, none⟩ (by simp; omega)]; simp)
  have st := setE ⟨b, 0, none⟩ ⟨w.heap.size + 1 + 1 + 1, 0, none⟩ n (.int .i64 0) ((((w.alloc (.cells #[.pointer (some ⟨b, 0, none⟩)] 88)).alloc (.cells #[rt 88, .pointer (some ⟨w.heap.size, 0, none⟩), .int .u64 150] 74)).alloc (.cells #[rt 88, .pointer (some ⟨w.heap.size, 0, none⟩), .int .u64 150] 74)).alloc (.cells #[.int .i64 n] 38))
    (by rw [World.cell?_alloc_at _ _ _ _ (by simp)]; rfl)
    (by rw [World.cell?_alloc_lt _ _ ⟨b, 0, none⟩ (by simp; omega), World.cell?_alloc_lt _ _ ⟨b, 0, none⟩ (by simp; omega), World.cell?_alloc_lt _ _ ⟨b, 0, none⟩ (by simp; omega), World.cell?_alloc_lt _ _ ⟨b, 0, none⟩ lb]; exact c0)
    (by rw [World.frozen?_alloc_old _ _ ⟨b, 0, none⟩ (by simp; omega), World.frozen?_alloc_old _ _ ⟨b, 0, none⟩ (by simp; omega), World.frozen?_alloc_old _ _ ⟨b, 0, none⟩ (by simp; omega), World.frozen?_alloc_old _ _ ⟨b, 0, none⟩ (Nat.ne_of_lt lb)]; exact f0)
  go_enter Tryz.func34, Tryz.ntmps34
  go_wp2
  refine wp_loop_rounds 1 ?_
  rw [rounds_succ]
  go_wp2
  go_ret
  refine ⟨rfl, ?_, ?_⟩
  · repeat (first | exact grown_refl _ _ | exact grown_setCell _ _ _ _ | refine World.grownBy.trans ?_ (grown_setCell _ _ _ _) | refine World.grownBy.trans ?_ (World.grownBy_alloc _ _ _))
  · exact heap_setCell (c := #[.int .i64 0]) ((heap_alloc_old _ _ (by simp; omega)).trans ((heap_alloc_old _ _ (by simp; omega)).trans ((heap_alloc_old _ _ (by simp; omega)).trans ((heap_alloc_old _ _ lb).trans H.out)))) _

theorem ErrT_of {w w' : World} (h : ErrT w) (hh : ∀ k, k < w.heap.size → w'.heap[k]? = w.heap[k]?) : ErrT w' := by
  unfold ErrT at *
  have hlt : 0 < w.heap.size := block_lt_of_cell h
  rw [cell_in] at h ⊢
  rw [hh _ hlt]; exact h
theorem ErrT_alloc {w : World} (h : ErrT w) (o : Obj) : ErrT (w.alloc o) := ErrT_of h fun _ hk => heap_alloc_old _ _ hk
theorem ErrT_ext {w w' : World} (h : ErrT w) (hx : ∃ x, w' = ext w x) : ErrT w' := ErrT_of h fun _ hk => (ext_iff.1 hx).block _ hk

/-- The number in an error: of nil 0, of an Errno its own. -/
def errNum : Value → Int
  | .iface _ (.int _ n) => n
  | _ => 0
/-- nil, or an Errno. -/
inductive IsErr : Value → Prop
  | nil : IsErr .nilIface
  | no (n : Int) : IsErr (.iface 38 (.int .i64 n))

set_option maxRecDepth 100000 in
set_option maxHeartbeats 400000 in
theorem tell_any (e : Value) (he : IsErr e) (w : World) (hE : ErrT w) :
    Calls Tryz.prog 21 #[e] w fun r w' => r = .returned (.int .i64 (errNum e)) ∧ ∃ x, w' = ext w x := by
  cases he with
  | nil =>
    go_enter Tryz.func21, Tryz.ntmps21
    go_wp2
    go_ret
    exact ⟨rfl, ext_refl _⟩
  | no n =>
    go_enter Tryz.func21, Tryz.ntmps21
    go_wp2_with fail
    refine (as_hit n _ _ (ErrT_alloc hE _) (heap_alloc_at _ _)).mono ?_
    rintro _ w1 ⟨rfl, hg, hh⟩
    have c1 : w1.cell? ⟨w.heap.size, 0, none⟩ = some (.int .i64 n) := by rw [cell_in, hh]; rfl
    have hB : Hid (∃ x, w1 = ext w x) := ext_of (((Below.refl _ _).alloc (Nat.le_refl _) (.cells #[.int .i64 0] 38)).grown hg (by simp) (by rintro _ ⟨⟩; exact Nat.le_refl _))
    clear hg hh
    go_wp2_with fail
    go_ret
    exact ⟨rfl, hB.out⟩

theorem assertAt (n : Int) (w : World) : (Instr.typeAssert (.iface 38 (.int .i64 n)) 36 62 true).run Tryz.prog w = .ok (.tuple #[.pointer none, .bool false]) w := by kernel_rfl
theorem assertUnwrap (n : Int) (w : World) : (Instr.typeAssert (.iface 38 (.int .i64 n)) 36 66 true).run Tryz.prog w = .ok (.tuple #[.nilIface, .bool false]) w :=
  run_typeAssert_lacksB Tryz.underlying66 (by kernel_rfl) (by kernel_rfl) (.int .i64 n) 36 w

set_option maxRecDepth 100000 in
set_option maxHeartbeats 400000 in
theorem place_any (e : Value) (he : IsErr e) (w : World) (hE : ErrT w) :
    Calls Tryz.prog 13 #[e] w fun r w' => r = .returned (.tuple #[.int .i64 (errNum e), .int .i64 (-1)]) ∧ ∃ x, w' = ext w x := by
  cases he with
  | nil =>
    go_enter Tryz.func13, Tryz.ntmps13
    go_wp2_with fail
    refine (tell_any _ .nil _ hE).mono ?_
    rintro _ w1 ⟨rfl, hX⟩
    go_wp2_with fail
    refine wp_loop_rounds 1 ?_
    rw [rounds_succ]
    go_wp2_with fail
    go_ret2
    exact ⟨rfl, hX⟩
  | no n =>
    go_enter Tryz.func13, Tryz.ntmps13
    go_wp2_with fail
    refine (tell_any _ (.no n) _ hE).mono ?_
    rintro _ w1 ⟨rfl, hX⟩
    have X := Lib.hid hX
    clear hX
    go_wp2_with fail
    have hA := assertAt n
    have hU := assertUnwrap n
    refine wp_loop_rounds 1 ?_
    rw [rounds_succ]
    go_wp2_with fail
    go_ret2
    exact ⟨rfl, X.out⟩

set_option maxRecDepth 100000 in
set_option maxHeartbeats 400000 in
theorem bare_any (e : Value) (he : IsErr e) (n : Int) (w : World) (hE : ErrT w) :
    Calls Tryz.prog 6 #[e, .int .i64 n] w fun r w' => r = .returned (.bool (errNum e == n)) ∧ ∃ x, w' = ext w x := by
  by_cases h : errNum e = n
  · have hb : (errNum e == n) = true := by rw [h]; simp
    go_enter Tryz.func6, Tryz.ntmps6
    clear h
    go_wp2_with fail
    refine (place_any _ he _ hE).mono ?_
    rintro _ w1 ⟨rfl, hX⟩
    have X := Lib.hid hX
    clear hX
    go_wp2_with fail
    go_ret
    exact ⟨by rw [hb]; rfl, X.out⟩
  · have hb : (errNum e == n) = false := by rw [beq_eq_false_iff_ne]; exact h
    go_enter Tryz.func6, Tryz.ntmps6
    clear h
    go_wp2_with fail
    refine (place_any _ he _ hE).mono ?_
    rintro _ w1 ⟨rfl, hX⟩
    have X := Lib.hid hX
    clear hX
    go_wp2_with fail
    go_ret
    exact ⟨by rw [hb]; rfl, X.out⟩
end Go.Proofs.YtcbcknfhblamfaaGreatDoor
namespace Go.Proofs.YtcbcknfhblamfaaGreatDoor
open Go.RowKit

/-- An Errno as an error. -/
def errOf (e : Int) : Value := if e = 0 then .nilIface else errV e
theorem errOf_is (e : Int) : IsErr (errOf e) := by
  unfold errOf; split
  · exact .nil
  · exact .no e
theorem errOf_num (e : Int) : (errNum (errOf e) == e) = true := by
  unfold errOf; split
  · rename_i h; rw [h]; rfl
  · exact beq_self_eq_true e
def okB (key nonce : ByteArray) (n : Int) : Prop := key.size = 32 ∧ nonce.size = 12 ∧ 0 ≤ n ∧ n < 4294967296
instance (key nonce : ByteArray) (n : Int) : Decidable (okB key nonce n) := by unfold okB; exact inferInstance
/-- What a block is, and what is wrong. -/
def blockR (key : ByteArray) (n : Int) (nonce : ByteArray) : List UInt8 × Int := if okB key nonce n then (block key.data.toList n.toNat nonce.data.toList, 0) else ([], 1)
/-- What a text is together with blocks, and what is wrong. -/
def xorR (key nonce s : ByteArray) : List UInt8 × Int := if key.size = 32 ∧ nonce.size = 12 then (xorB key.data.toList nonce.data.toList s.data.toList, 0) else ([], 1)
end Go.Proofs.YtcbcknfhblamfaaGreatDoor
