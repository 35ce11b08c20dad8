/- Worlds behind each other, by what may have turned. Plain. · errors.As at an api.Errno; api.Tell; plain.Place. · errors.As, api.Tell, plain.Place at nil and at an api.Errno. -/
import Derived.Test.YtnkmckdefiblhaaGreatDoorG1
import Derived.Test.YtnkmckdefiblhaaGreatDoorG15
import Derived.Test.YtnkmckdefiblhaaGreatDoorProg
import Derived.LaidEql
import Derived.Stop.Asserts
import Derived.RowKitTokens
namespace Go.Proofs.YtnkmckdefiblhaaGreatDoor
open Go.RowKit

abbrev Blk := Nat → Prop
/-- Nothing. -/
def none0 : Blk := fun _ => False
/-- From w to w': what F does not name is as it was; F' names no more than F, and what is new. -/
structure step (w w' : World) (F F' : Blk) : Prop where
  os : w'.os = w.os
  tape : w'.tape = w.tape
  output : w'.output = w.output
  size : w.heap.size ≤ w'.heap.size
  block : ∀ i, i < w.heap.size → ¬ F i → w'.heap[i]? = w.heap[i]?
  sub : ∀ i, F' i → F i ∨ (w.heap.size ≤ i ∧ i < w'.heap.size)
theorem step.refl (w : World) (F : Blk) : step w w F F := ⟨rfl, rfl, rfl, Nat.le_refl _, fun _ _ _ => rfl, fun _ h => .inl h⟩
theorem step.trans {w w1 w2 : World} {F F1 F2 : Blk} (h : step w w1 F F1) (g : step w1 w2 F1 F2) : step w w2 F F2 := by
  refine ⟨g.os.trans h.os, g.tape.trans h.tape, g.output.trans h.output, Nat.le_trans h.size g.size, fun i hi hF => ?_, fun i hi => ?_⟩
  · refine (g.block i (Nat.lt_of_lt_of_le hi h.size) (fun h1 => ?_)).trans (h.block i hi hF)
    rcases h.sub i h1 with h2 | h2
    · exact hF h2
    · omega
  · rcases g.sub i hi with h1 | h1
    · rcases h.sub i h1 with h2 | h2
      · exact .inl h2
      · have := g.size; exact .inr ⟨h2.1, by omega⟩
    · have := h.size; exact .inr ⟨by omega, h1.2⟩
theorem step.of_below {w w' : World} (F : Blk) (h : Below w.heap.size w w') : step w w' F F :=
  ⟨h.os, h.tape, h.output, h.size, fun i hi _ => h.block i hi, fun _ h => .inl h⟩
theorem step.of_ext {w w' : World} (F : Blk) (h : ∃ x, w' = ext w x) : step w w' F F := .of_below F (ext_iff.1 h)
theorem step.of_grown {w w' : World} {F : Blk} {row : Option Nat} (h : w.grownBy w' row) (hr : ∀ j, row = some j → F j) : step w w' F F :=
  ⟨h.os, h.tape, h.output, h.size, fun i hi hF => h.block i hi (fun e => hF (hr i e.symm)), fun _ h => .inl h⟩
theorem step.alloc (w : World) (o : Obj) (F : Blk) : step w (w.alloc o) F F := .of_ext F (ext_alloc o (ext_refl w))
/-- What is new may be named. -/
theorem step.more {w w' : World} {F F1 F' : Blk} (h : step w w' F F1) (hs : ∀ i, F' i → F1 i ∨ (w.heap.size ≤ i ∧ i < w'.heap.size)) : step w w' F F' := by
  refine ⟨h.os, h.tape, h.output, h.size, h.block, fun i hi => ?_⟩
  rcases hs i hi with h1 | h1
  · exact h.sub i h1
  · exact .inr h1
/-- A step of a part is one of all. -/
theorem step.lift {w w' : World} {F F' A : Blk} (h : step w w' F F') (hA : ∀ i, F i → A i) : step w w' A (fun i => A i ∨ F' i) := by
  refine ⟨h.os, h.tape, h.output, h.size, fun i hi hn => h.block i hi (fun hF => hn (hA i hF)), fun i hi => ?_⟩
  rcases hi with h1 | h1
  · exact .inl h1
  · rcases h.sub i h1 with h2 | h2
    · exact .inl (hA i h2)
    · exact .inr h2
theorem step.same {w w' : World} {F A : Blk} (h : step w w' F F) (hA : ∀ i, F i → A i) : step w w' A A := by
  refine (h.lift hA).more (fun i hi => .inl (.inl hi))
theorem step.below {w w' : World} {F' : Blk} (h : step w w' none0 F') : Below w.heap.size w w' :=
  ⟨h.os, h.tape, h.output, h.size, fun i hi => h.block i hi (fun h => h)⟩
theorem step.ext {w w' : World} {F' : Blk} (h : step w w' none0 F') : ∃ x, w' = Go.Proofs.YtnkmckdefiblhaaGreatDoor.ext w x := ext_of h.below
theorem step.grown {w w' : World} {F F' : Blk} {a : Nat} (h : step w w' F F') (hF : ∀ i, F i → i = a) : w.grownBy w' (some a) :=
  ⟨h.os, h.tape, h.output, h.size, fun i hi hne => h.block i hi (fun hf => hne (by rw [hF i hf]))⟩
/-- A block that is not named stays, and is not named. -/
theorem step.keep {w w' : World} {F F' : Blk} (h : step w w' F F') {i : Nat} (hi : i < w.heap.size) (hn : ¬ F i) : w'.heap[i]? = w.heap[i]? ∧ i < w'.heap.size ∧ ¬ F' i := by
  refine ⟨h.block i hi hn, Nat.lt_of_lt_of_le hi h.size, fun h1 => ?_⟩
  rcases h.sub i h1 with h2 | h2
  · exact hn h2
  · omega
theorem step.new {w w' : World} {F' : Blk} (h : step w w' none0 F') {i : Nat} (hi : F' i) : w.heap.size ≤ i ∧ i < w'.heap.size := by
  rcases h.sub i hi with h1 | h1
  · exact h1.elim
  · exact h1
/-- Two parts that have nothing in common. -/
def apart (F G : Blk) : Prop := ∀ i, F i → ¬ G i
theorem apart.symm {F G : Blk} (h : apart F G) : apart G F := fun i h1 h2 => h i h2 h1
theorem step.apart {w w' : World} {F F' G : Blk} (h : step w w' F F') (ha : Go.Proofs.YtnkmckdefiblhaaGreatDoor.apart F G) (hG : ∀ i, G i → i < w.heap.size) : Go.Proofs.YtnkmckdefiblhaaGreatDoor.apart F' G := fun i h1 h2 => by
  rcases h.sub i h1 with h3 | h3
  · exact ha i h3 h2
  · have := hG i h2; omega
theorem step.kept {w w' : World} {F F' G : Blk} (h : step w w' F F') (ha : Go.Proofs.YtnkmckdefiblhaaGreatDoor.apart F G) (hG : ∀ i, G i → i < w.heap.size) : ∀ i, G i → w'.heap[i]? = w.heap[i]? :=
  fun i hi => h.block i (hG i hi) (fun h1 => ha i h1 hi)
/-- A map in blocks that have not turned. -/
theorem mapAt.same {w w' : World} {b n : Nat} {T : List Cell} (h : mapAt w b n T) (hb : w'.heap[b]? = w.heap[b]?) : mapAt w' b n T := by
  obtain ⟨es, ⟨es', clock, h1, h2⟩, hp⟩ := h.own
  exact ⟨⟨es, ⟨es', clock, hb.trans h1, h2⟩, hp⟩, h.once, h.small⟩
end Go.Proofs.YtnkmckdefiblhaaGreatDoor
namespace Go.Proofs.YtnkmckdefiblhaaGreatDoor
open Go.RowKit Go.Extern.Stop Go.Stop Go.Extern

/-- The handle of a type, as package reflectlite has it. -/
abbrev rt (t : Nat) : Value := .pointer (some ⟨11, t, none⟩)
theorem valueOfP (t : Addr) (w : World) : (ReflectliteValue.unpack (.iface 98 (.pointer (some t)))).run Tryz.prog w
    = .ok (.agg #[rt 98, .pointer (some ⟨w.heap.size, 0, none⟩), .int .u64 150]) (w.alloc (.cells #[.pointer (some t)] 98)) := by kernel_rfl
theorem typeP (a : Addr) (w : World) : (ReflectliteValue.methodAny (ReflectliteValue.valueError "reflectlite.Value.Type" 0) (fun t _ _ _ => ReflectliteType.toType t) #[.agg #[rt 98, .pointer (some a), .int .u64 150]]).run Tryz.prog w
    = .ok (.iface 173 (.agg #[rt 98])) w := by kernel_rfl
theorem kindP (w : World) : ((ReflectliteType.abiMethod fun t => (fun a : Nat => Value.int IntKind.u8 (a : Int)) <$> Rtype.kind t) #[rt 98]).run Tryz.prog w = .ok (.int .u8 22) w := by kernel_rfl
theorem kindE (w : World) : ((ReflectliteType.abiMethod fun t => (fun a : Nat => Value.int IntKind.u8 (a : Int)) <$> Rtype.kind t) #[rt 53]).run Tryz.prog w = .ok (.int .u8 2) w := by kernel_rfl
theorem rlm (z : Sem Value) (f : TypeId → Addr → Nat → Nat → Sem Value) (v : Value) :
    ReflectliteValue.method z f #[v] = (do match ← ReflectliteValue.parts v with | none => z | some (t, a, fl) => f t a fl (fl % 32)) := rfl
theorem partsP (a : Addr) (w : World) : (ReflectliteValue.parts (.agg #[rt 98, .pointer (some a), .int .u64 150])).run Tryz.prog w = .ok (some (98, a, 150)) w := by kernel_rfl
theorem isNilP (a p : Addr) (W : World) (ha : W.cell? a = some (.pointer (some p))) :
    (ReflectliteValue.method (ReflectliteValue.valueError "reflectlite.Value.IsNil" 0) ReflectliteValue.isNil #[.agg #[rt 98, .pointer (some a), .int .u64 150]]).run Tryz.prog W = .ok (.bool false) W := by
  rw [rlm]
  simp only [Sem.run_bind, partsP, Result.andThen]
  simp [ReflectliteValue.isNil, loadVar, isAgg, underlying, Tryz.underlying98, ha, Result.andThen]
theorem elemP (w : World) : (ReflectliteType.method ReflectliteType.elem #[.agg #[rt 98]]).run Tryz.prog w = .ok (.iface 173 (.agg #[rt 53])) w := by kernel_rfl
theorem implE (w : World) : (ReflectliteType.relation "Implements" ReflectliteType.implements_ #[.agg #[rt 53], .iface 173 (.agg #[rt 43])]).run Tryz.prog w = .ok (.bool true) w := by kernel_rfl
theorem typeOfE (v : Value) (w : World) : (ReflectliteType.typeOf #[.iface 53 v]).run Tryz.prog w = .ok (.iface 173 (.agg #[rt 53])) w := by kernel_rfl
theorem assignE (w : World) : (ReflectliteType.relation "AssignableTo" ReflectliteType.assignableTo #[.agg #[rt 53], .iface 173 (.agg #[rt 53])]).run Tryz.prog w = .ok (.bool true) w := by kernel_rfl
theorem valueOfE (n : Int) (w : World) : (ReflectliteValue.unpack (.iface 53 (.int .i64 n))).run Tryz.prog w
    = .ok (.agg #[rt 53, .pointer (some ⟨w.heap.size, 0, none⟩), .int .u64 130]) (w.alloc (.cells #[.int .i64 n] 53)) := by kernel_rfl
theorem elemOfP (w : World) : (Rtype.elem? 98).run Tryz.prog w = .ok (some 53) w := by kernel_rfl
theorem mkE (p : Addr) (w : World) : (ReflectliteValue.mk 53 p ReflectliteValue.flagAddr).run Tryz.prog w = .ok (.agg #[rt 53, .pointer (some p), .int .u64 386]) w := by kernel_rfl
theorem elemVP (a p : Addr) (W : World) (ha : W.cell? a = some (.pointer (some p))) :
    (ReflectliteValue.method (ReflectliteValue.valueError "reflectlite.Value.Elem" 0) ReflectliteValue.elem #[.agg #[rt 98, .pointer (some a), .int .u64 150]]).run Tryz.prog W
      = .ok (.agg #[rt 53, .pointer (some p), .int .u64 386]) W := by
  rw [rlm]
  simp only [Sem.run_bind, partsP, Result.andThen]
  simp [ReflectliteValue.elem, loadVar, isAgg, underlying, Tryz.underlying98, ha, Result.andThen, elemOfP, mkE]
theorem rls (v x : Value) : ReflectliteValue.set #[v, x] = (do
    let (some (dst, a, fl), some (src, b, _)) := (← ReflectliteValue.parts v, ← ReflectliteValue.parts x)
      | unsupported (.noEntry "extern/(internal/reflectlite.Value).Set.zeroValue")
    if fl / ReflectliteValue.flagAddr % 2 == 0 then unsupported (.noEntry "extern/(internal/reflectlite.Value).Set.unaddressable")
    let val ← loadVar src b
    if ← Rtype.directlyAssignable dst src then storeVar dst a val
    else if ← Rtype.implements dst src then
      if (← Rtype.kind src) == 20 then
        match val with
        | .nilIface => unsupported (.noEntry "extern/reflectlite: a nil value of one interface type handed on as a value of another")
        | _ => storeVar dst a val
      else storeVar dst a (.iface src val)
    else panicString ("reflectlite.Set: value of type " ++ (← Rtype.spelt src) ++ " is not assignable to type " ++ (← Rtype.spelt dst))
    pure (.tuple #[])) := rfl
theorem partsEa (a : Addr) (w : World) : (ReflectliteValue.parts (.agg #[rt 53, .pointer (some a), .int .u64 386])).run Tryz.prog w = .ok (some (53, a, 386)) w := by kernel_rfl
theorem partsE (a : Addr) (w : World) : (ReflectliteValue.parts (.agg #[rt 53, .pointer (some a), .int .u64 130])).run Tryz.prog w = .ok (some (53, a, 130)) w := by kernel_rfl
theorem directE (w : World) : (Rtype.directlyAssignable 53 53).run Tryz.prog w = .ok true w := by kernel_rfl
theorem setE (ta b : Addr) (n : Int) (old : Value) (W : World) (hb : W.cell? b = some (.int .i64 n)) (ht : W.cell? ta = some old) (hf : W.frozen? ta = false) :
    (ReflectliteValue.set #[.agg #[rt 53, .pointer (some ta), .int .u64 386], .agg #[rt 53, .pointer (some b), .int .u64 130]]).run Tryz.prog W
      = .ok (.tuple #[]) (W.setCell ta (.int .i64 n)) := by
  rw [rls]
  simp only [Sem.run_bind, partsEa, partsE, Result.andThen]
  simp [ReflectliteValue.flagAddr, loadVar, isAgg, underlying, Tryz.underlying53, hb, Result.andThen, directE, storeVar, Value.cells, storeCells, Addr.add]
  rw [run_store Tryz.prog W ta _ _ (by rfl)]
  simp [ht, hf]
end Go.Proofs.YtnkmckdefiblhaaGreatDoor
namespace Go.Proofs.YtnkmckdefiblhaaGreatDoor
open Go.RowKit Go.Extern.Stop Go.Stop Go.Extern

/-- What package errors' variable holds: the handle of the type error. -/
def ErrT (w : World) : Prop := w.cell? ⟨1, 0, none⟩ = some (.iface 173 (.agg #[rt 43]))

theorem methodKind (h : Value) (w : World) : (Go.method 407 173 (.agg #[h]) "Kind").run Tryz.prog w = .ok (227, h) w := by kernel_rfl
theorem methodElem (h : Value) (w : World) : (Go.method 407 173 (.agg #[h]) "Elem").run Tryz.prog w = .ok (238, .agg #[h]) w := by kernel_rfl
theorem methodImpl (h : Value) (w : World) : (Go.method 407 173 (.agg #[h]) "Implements").run Tryz.prog w = .ok (239, .agg #[h]) w := by kernel_rfl
theorem methodAssign (h : Value) (w : World) : (Go.method 407 173 (.agg #[h]) "AssignableTo").run Tryz.prog w = .ok (236, .agg #[h]) w := by kernel_rfl

set_option maxRecDepth 100000 in
set_option maxHeartbeats 4000000 in
theorem as_hit (n : Int) (b : Nat) (w : World) (hE : ErrT w) (hb : w.heap[b]? = some (.cells #[.int .i64 0] 53 (0, 0))) :
    Calls Tryz.prog 50 #[.iface 53 (.int .i64 n), .iface 98 (.pointer (some ⟨b, 0, none⟩))] w fun r w' =>
      r = .returned (.bool true) ∧ w.grownBy w' (some b) ∧ w'.heap[b]? = some (.cells #[.int .i64 n] 53 (0, 0)) := by
  have h6 := @run_callFunc_extern Tryz.prog 73 _ (fun args => ReflectliteValue.unpack (args.getD 0 (.tuple #[]))) Tryz.func73 (by kernel_rfl) (by kernel_rfl) (by kernel_rfl) (by kernel_rfl)
  have h7 := @run_callFunc_extern Tryz.prog 74 _ (ReflectliteValue.methodAny (ReflectliteValue.valueError "reflectlite.Value.Type" 0) (fun t _ _ _ => ReflectliteType.toType t)) Tryz.func74 (by kernel_rfl) (by kernel_rfl) (by kernel_rfl) (by kernel_rfl)
  have h8 := @run_callFunc_extern Tryz.prog 75 _ (ReflectliteValue.method (ReflectliteValue.valueError "reflectlite.Value.IsNil" 0) ReflectliteValue.isNil) Tryz.func75 (by kernel_rfl) (by kernel_rfl) (by kernel_rfl) (by kernel_rfl)
  have h27 := @run_callFunc_extern Tryz.prog 227 _ (ReflectliteType.abiMethod fun t => do pure (.int .u8 (← Rtype.kind t))) Tryz.func227 (by kernel_rfl) (by kernel_rfl) (by kernel_rfl) (by kernel_rfl)
  have h37 := @run_callFunc_extern Tryz.prog 238 _ (ReflectliteType.method ReflectliteType.elem) Tryz.func238 (by kernel_rfl) (by kernel_rfl) (by kernel_rfl) (by kernel_rfl)
  have h38 := @run_callFunc_extern Tryz.prog 239 _ (ReflectliteType.relation "Implements" ReflectliteType.implements_) Tryz.func239 (by kernel_rfl) (by kernel_rfl) (by kernel_rfl) (by kernel_rfl)
  have h10 := @run_callFunc_extern Tryz.prog 103 _ ReflectliteType.typeOf Tryz.func103 (by kernel_rfl) (by kernel_rfl) (by kernel_rfl) (by kernel_rfl)
  have h35 := @run_callFunc_extern Tryz.prog 236 _ (ReflectliteType.relation "AssignableTo" ReflectliteType.assignableTo) Tryz.func236 (by kernel_rfl) (by kernel_rfl) (by kernel_rfl) (by kernel_rfl)
  have h11 := @run_callFunc_extern Tryz.prog 104 _ (ReflectliteValue.method (ReflectliteValue.valueError "reflectlite.Value.Elem" 0) ReflectliteValue.elem) Tryz.func104 (by kernel_rfl) (by kernel_rfl) (by kernel_rfl) (by kernel_rfl)
  have h12 := @run_callFunc_extern Tryz.prog 105 _ ReflectliteValue.set Tryz.func105 (by kernel_rfl) (by kernel_rfl) (by kernel_rfl) (by kernel_rfl)
  have lb := lt_of_heap hb
  have H := Lib.hid hb
  have c0 : w.cell? ⟨b, 0, none⟩ = some (.int .i64 0) := by rw [cell_in, hb]; rfl
  have f0 := free_of_heap hb 0
  clear hb
  have tO := typeOfE
  have aE := assignE
  have vE := valueOfE
  have f6 := valueOfP
  have f7 := typeP
  have kP := kindP
  have kE := kindE
  have eP := elemP
  have iE := implE
  have hE' : w.cell? ⟨1, 0, none⟩ = some (.iface 173 (.agg #[rt 43])) := hE
  clear hE
  have hlt : 1 < w.heap.size := by
    rcases Nat.lt_or_ge 1 w.heap.size with h | h
    · exact h
    · simp [World.cell?, Array.getElem?_eq_none h] at hE'
  have mK := methodKind
  have mE := methodElem
  have mI := methodImpl
  have mA := methodAssign
  have n8 := isNilP ⟨w.heap.size, 0, none⟩ ⟨b, 0, none⟩ ((w.alloc (.cells #[.pointer (some ⟨b, 0, none⟩)] 98)).alloc (.cells #[rt 98, .pointer (some ⟨w.heap.size, 0, none⟩), .int .u64 150] 126)) (by simp)
  have hg2 : ((w.alloc (.cells #[.pointer (some ⟨b, 0, none⟩)] 98)).alloc (.cells #[rt 98, .pointer (some ⟨w.heap.size, 0, none⟩), .int .u64 150] 126)).cell? ⟨1, 0, none⟩ = some (.iface 173 (.agg #[rt 43])) := by
    rw [World.cell?_alloc_lt _ _ ⟨1, 0, none⟩ (by simp <;> omega), World.cell?_alloc_lt _ _ ⟨1, 0, none⟩ hlt]; exact hE'
  have el := elemVP ⟨w.heap.size, 0, none⟩ ⟨b, 0, none⟩ (((w.alloc (.cells #[.pointer (some ⟨b, 0, none⟩)] 98)).alloc (.cells #[rt 98, .pointer (some ⟨w.heap.size, 0, none⟩), .int .u64 150] 126)).alloc (.cells #[rt 98, .pointer (some ⟨w.heap.size, 0, none⟩), .int .u64 150] 126)) (by rw [World.cell?_alloc_lt _ _ ⟨w.heap.size, 0, none⟩ (by simp; omega)]; simp)
  have st := setE ⟨b, 0, none⟩ ⟨w.heap.size + 1 + 1 + 1, 0, none⟩ n (.int .i64 0) ((((w.alloc (.cells #[.pointer (some ⟨b, 0, none⟩)] 98)).alloc (.cells #[rt 98, .pointer (some ⟨w.heap.size, 0, none⟩), .int .u64 150] 126)).alloc (.cells #[rt 98, .pointer (some ⟨w.heap.size, 0, none⟩), .int .u64 150] 126)).alloc (.cells #[.int .i64 n] 53))
    (by rw [World.cell?_alloc_at _ _ _ _ (by simp)]; rfl)
    (by rw [World.cell?_alloc_lt _ _ ⟨b, 0, none⟩ (by simp; omega), World.cell?_alloc_lt _ _ ⟨b, 0, none⟩ (by simp; omega), World.cell?_alloc_lt _ _ ⟨b, 0, none⟩ (by simp; omega), World.cell?_alloc_lt _ _ ⟨b, 0, none⟩ lb]; exact c0)
    (by rw [World.frozen?_alloc_old _ _ ⟨b, 0, none⟩ (by simp; omega), World.frozen?_alloc_old _ _ ⟨b, 0, none⟩ (by simp; omega), World.frozen?_alloc_old _ _ ⟨b, 0, none⟩ (by simp; omega), World.frozen?_alloc_old _ _ ⟨b, 0, none⟩ (Nat.ne_of_lt lb)]; exact f0)
  go_enter Tryz.func50, Tryz.ntmps50
  go_wp2
  refine wp_loop_rounds 1 ?_
  rw [rounds_succ]
  go_wp2
  go_ret
  refine ⟨rfl, ?_, ?_⟩
  · repeat (first | exact grown_refl _ _ | exact grown_setCell _ _ _ _ | refine World.grownBy.trans ?_ (grown_setCell _ _ _ _) | refine World.grownBy.trans ?_ (World.grownBy_alloc _ _ _))
  · exact heap_setCell (c := #[.int .i64 0]) ((heap_alloc_old _ _ (by simp; omega)).trans ((heap_alloc_old _ _ (by simp; omega)).trans ((heap_alloc_old _ _ (by simp; omega)).trans ((heap_alloc_old _ _ lb).trans H.out)))) _

theorem ErrT_of {w w' : World} (h : ErrT w) (hh : ∀ k, k < w.heap.size → w'.heap[k]? = w.heap[k]?) : ErrT w' := by
  unfold ErrT at *
  have hlt : 1 < w.heap.size := block_lt_of_cell h
  rw [cell_in] at h ⊢
  rw [hh _ hlt]; exact h
theorem ErrT_alloc {w : World} (h : ErrT w) (o : Obj) : ErrT (w.alloc o) := ErrT_of h fun _ hk => heap_alloc_old _ _ hk
/-- The number in an error: of nil 0, of an Errno its own. -/
def errNum : Value → Int
  | .iface _ (.int _ n) => n
  | _ => 0
/-- nil, or an Errno. -/
inductive IsErr : Value → Prop
  | nil : IsErr .nilIface
  | no (n : Int) : IsErr (.iface 53 (.int .i64 n))

set_option maxRecDepth 100000 in
set_option maxHeartbeats 400000 in
theorem tell_any (e : Value) (he : IsErr e) (w : World) (hE : ErrT w) :
    Calls Tryz.prog 27 #[e] w fun r w' => r = .returned (.int .i64 (errNum e)) ∧ ∃ x, w' = ext w x := by
  cases he with
  | nil =>
    go_enter Tryz.func27, Tryz.ntmps27
    go_wp2
    go_ret
    exact ⟨rfl, ext_refl _⟩
  | no n =>
    go_enter Tryz.func27, Tryz.ntmps27
    go_wp2_with fail
    refine (as_hit n _ _ (ErrT_alloc hE _) (heap_alloc_at _ _)).mono ?_
    rintro _ w1 ⟨rfl, hg, hh⟩
    have c1 : w1.cell? ⟨w.heap.size, 0, none⟩ = some (.int .i64 n) := by rw [cell_in, hh]; rfl
    have hB : Hid (∃ x, w1 = ext w x) := ext_of (((Below.refl _ _).alloc (Nat.le_refl _) (.cells #[.int .i64 0] 53)).grown hg (by simp) (by rintro _ ⟨⟩; exact Nat.le_refl _))
    clear hg hh
    go_wp2_with fail
    go_ret
    exact ⟨rfl, hB.out⟩

end Go.Proofs.YtnkmckdefiblhaaGreatDoor
