/- Worlds behind each other, by what may have turned. Plain. · errors.As at an api.Errno; api.Tell; plain.Place. -/
import Derived.Test.YtafdigdopeahdaaGreatDoorWords
import Derived.Test.YtafdigdopeahdaaGreatDoorG21
import Derived.Test.YtafdigdopeahdaaGreatDoorProg
import Derived.LaidEql
import Derived.Stop.Asserts
import Derived.RowKitTokens
namespace Go.Proofs.YtafdigdopeahdaaGreatDoor
open Go.RowKit

abbrev Blk := Nat → Prop
/-- Nothing. -/
def none0 : Blk := fun _ => False
/-- From w to w': what F does not name is as it was; F' names no more than F, and what is new. -/
structure step (w w' : World) (F F' : Blk) : Prop where
  os : w'.os = w.os
  tape : w'.tape = w.tape
  output : w'.output = w.output
  size : w.heap.size ≤ w'.heap.size
  block : ∀ i, i < w.heap.size → ¬ F i → w'.heap[i]? = w.heap[i]?
  sub : ∀ i, F' i → F i ∨ (w.heap.size ≤ i ∧ i < w'.heap.size)
theorem step.refl (w : World) (F : Blk) : step w w F F := ⟨rfl, rfl, rfl, Nat.le_refl _, fun _ _ _ => rfl, fun _ h => .inl h⟩
theorem step.trans {w w1 w2 : World} {F F1 F2 : Blk} (h : step w w1 F F1) (g : step w1 w2 F1 F2) : step w w2 F F2 := by
  refine ⟨g.os.trans h.os, g.tape.trans h.tape, g.output.trans h.output, Nat.le_trans h.size g.size, fun i hi hF => ?_, fun i hi => ?_⟩
  · refine (g.block i (Nat.lt_of_lt_of_le hi h.size) (fun h1 => ?_)).trans (h.block i hi hF)
    rcases h.sub i h1 with h2 | h2
    · exact hF h2
    · omega
  · rcases g.sub i hi with h1 | h1
    · rcases h.sub i h1 with h2 | h2
      · exact .inl h2
      · have := g.size; exact .inr ⟨h2.1, by omega⟩
    · have := h.size; exact .inr ⟨by omega, h1.2⟩
theorem step.of_below {w w' : World} (F : Blk) (h : Below w.heap.size w w') : step w w' F F :=
  ⟨h.os, h.tape, h.output, h.size, fun i hi _ => h.block i hi, fun _ h => .inl h⟩
theorem step.of_ext {w w' : World} (F : Blk) (h : ∃ x, w' = ext w x) : step w w' F F := .of_below F (ext_iff.1 h)
theorem step.of_grown {w w' : World} {F : Blk} {row : Option Nat} (h : w.grownBy w' row) (hr : ∀ j, row = some j → F j) : step w w' F F :=
  ⟨h.os, h.tape, h.output, h.size, fun i hi hF => h.block i hi (fun e => hF (hr i e.symm)), fun _ h => .inl h⟩
theorem step.alloc (w : World) (o : Obj) (F : Blk) : step w (w.alloc o) F F := .of_ext F (ext_alloc o (ext_refl w))
/-- What is new may be named. -/
theorem step.more {w w' : World} {F F1 F' : Blk} (h : step w w' F F1) (hs : ∀ i, F' i → F1 i ∨ (w.heap.size ≤ i ∧ i < w'.heap.size)) : step w w' F F' := by
  refine ⟨h.os, h.tape, h.output, h.size, h.block, fun i hi => ?_⟩
  rcases hs i hi with h1 | h1
  · exact h.sub i h1
  · exact .inr h1
/-- A step of a part is one of all. -/
theorem step.lift {w w' : World} {F F' A : Blk} (h : step w w' F F') (hA : ∀ i, F i → A i) : step w w' A (fun i => A i ∨ F' i) := by
  refine ⟨h.os, h.tape, h.output, h.size, fun i hi hn => h.block i hi (fun hF => hn (hA i hF)), fun i hi => ?_⟩
  rcases hi with h1 | h1
  · exact .inl h1
  · rcases h.sub i h1 with h2 | h2
    · exact .inl (hA i h2)
    · exact .inr h2
theorem step.same {w w' : World} {F A : Blk} (h : step w w' F F) (hA : ∀ i, F i → A i) : step w w' A A := by
  refine (h.lift hA).more (fun i hi => .inl (.inl hi))
theorem step.below {w w' : World} {F' : Blk} (h : step w w' none0 F') : Below w.heap.size w w' :=
  ⟨h.os, h.tape, h.output, h.size, fun i hi => h.block i hi (fun h => h)⟩
theorem step.ext {w w' : World} {F' : Blk} (h : step w w' none0 F') : ∃ x, w' = Go.Proofs.YtafdigdopeahdaaGreatDoor.ext w x := ext_of h.below
theorem step.grown {w w' : World} {F F' : Blk} {a : Nat} (h : step w w' F F') (hF : ∀ i, F i → i = a) : w.grownBy w' (some a) :=
  ⟨h.os, h.tape, h.output, h.size, fun i hi hne => h.block i hi (fun hf => hne (by rw [hF i hf]))⟩
/-- A block that is not named stays, and is not named. -/
theorem step.keep {w w' : World} {F F' : Blk} (h : step w w' F F') {i : Nat} (hi : i < w.heap.size) (hn : ¬ F i) : w'.heap[i]? = w.heap[i]? ∧ i < w'.heap.size ∧ ¬ F' i := by
  refine ⟨h.block i hi hn, Nat.lt_of_lt_of_le hi h.size, fun h1 => ?_⟩
  rcases h.sub i h1 with h2 | h2
  · exact hn h2
  · omega
theorem step.new {w w' : World} {F' : Blk} (h : step w w' none0 F') {i : Nat} (hi : F' i) : w.heap.size ≤ i ∧ i < w'.heap.size := by
  rcases h.sub i hi with h1 | h1
  · exact h1.elim
  · exact h1
/-- Two parts that have nothing in common. -/
def apart (F G : Blk) : Prop := ∀ i, F i → ¬ G i
theorem apart.symm {F G : Blk} (h : apart F G) : apart G F := fun i h1 h2 => h i h2 h1
theorem step.apart {w w' : World} {F F' G : Blk} (h : step w w' F F') (ha : Go.Proofs.YtafdigdopeahdaaGreatDoor.apart F G) (hG : ∀ i, G i → i < w.heap.size) : Go.Proofs.YtafdigdopeahdaaGreatDoor.apart F' G := fun i h1 h2 => by
  rcases h.sub i h1 with h3 | h3
  · exact ha i h3 h2
  · have := hG i h2; omega
theorem step.kept {w w' : World} {F F' G : Blk} (h : step w w' F F') (ha : Go.Proofs.YtafdigdopeahdaaGreatDoor.apart F G) (hG : ∀ i, G i → i < w.heap.size) : ∀ i, G i → w'.heap[i]? = w.heap[i]? :=
  fun i hi => h.block i (hG i hi) (fun h1 => ha i h1 hi)
/-- A map in blocks that have not turned. -/
theorem mapAt.same {w w' : World} {b n : Nat} {T : List Cell} (h : mapAt w b n T) (hb : w'.heap[b]? = w.heap[b]?) : mapAt w' b n T := by
  obtain ⟨es, ⟨es', clock, h1, h2⟩, hp⟩ := h.own
  exact ⟨⟨es, ⟨es', clock, hb.trans h1, h2⟩, hp⟩, h.once, h.small⟩
theorem blocks_ne {w : World} {a b : Nat} {x y : Obj} (h1 : w.heap[a]? = some x) (h2 : w.heap[b]? = some y) (hne : x ≠ y) : a ≠ b := fun e => hne (by rw [e, h2] at h1; injection h1 with h1; exact h1.symm)
end Go.Proofs.YtafdigdopeahdaaGreatDoor
namespace Go.Proofs.YtafdigdopeahdaaGreatDoor
open Go.RowKit Go.Extern.Stop Go.Stop Go.Extern

/-- The handle of a type, as package reflectlite has it. -/
abbrev rt (t : Nat) : Value := .pointer (some ⟨6, t, none⟩)
theorem valueOfP (t : Addr) (w : World) : (ReflectliteValue.unpack (.iface 96 (.pointer (some t)))).run Tryz.prog w
    = .ok (.agg #[rt 96, .pointer (some ⟨w.heap.size, 0, none⟩), .int .u64 150]) (w.alloc (.cells #[.pointer (some t)] 96)) := by kernel_rfl
theorem typeP (a : Addr) (w : World) : (ReflectliteValue.methodAny (ReflectliteValue.valueError "reflectlite.Value.Type" 0) (fun t _ _ _ => ReflectliteType.toType t) #[.agg #[rt 96, .pointer (some a), .int .u64 150]]).run Tryz.prog w
    = .ok (.iface 156 (.agg #[rt 96])) w := by kernel_rfl
theorem kindP (w : World) : ((ReflectliteType.abiMethod fun t => (fun a : Nat => Value.int IntKind.u8 (a : Int)) <$> Rtype.kind t) #[rt 96]).run Tryz.prog w = .ok (.int .u8 22) w := by kernel_rfl
theorem kindE (w : World) : ((ReflectliteType.abiMethod fun t => (fun a : Nat => Value.int IntKind.u8 (a : Int)) <$> Rtype.kind t) #[rt 58]).run Tryz.prog w = .ok (.int .u8 2) w := by kernel_rfl
theorem rlm (z : Sem Value) (f : TypeId → Addr → Nat → Nat → Sem Value) (v : Value) :
    ReflectliteValue.method z f #[v] = (do match ← ReflectliteValue.parts v with | none => z | some (t, a, fl) => f t a fl (fl % 32)) := rfl
theorem partsP (a : Addr) (w : World) : (ReflectliteValue.parts (.agg #[rt 96, .pointer (some a), .int .u64 150])).run Tryz.prog w = .ok (some (96, a, 150)) w := by kernel_rfl
theorem isNilP (a p : Addr) (W : World) (ha : W.cell? a = some (.pointer (some p))) :
    (ReflectliteValue.method (ReflectliteValue.valueError "reflectlite.Value.IsNil" 0) ReflectliteValue.isNil #[.agg #[rt 96, .pointer (some a), .int .u64 150]]).run Tryz.prog W = .ok (.bool false) W := by
  rw [rlm]
  simp only [Sem.run_bind, partsP, Result.andThen]
  simp [ReflectliteValue.isNil, loadVar, isAgg, underlying, Tryz.underlying96, ha, Result.andThen]
theorem elemP (w : World) : (ReflectliteType.method ReflectliteType.elem #[.agg #[rt 96]]).run Tryz.prog w = .ok (.iface 156 (.agg #[rt 58])) w := by kernel_rfl
theorem implE (w : World) : (ReflectliteType.relation "Implements" ReflectliteType.implements_ #[.agg #[rt 58], .iface 156 (.agg #[rt 27])]).run Tryz.prog w = .ok (.bool true) w := by kernel_rfl
theorem typeOfE (v : Value) (w : World) : (ReflectliteType.typeOf #[.iface 58 v]).run Tryz.prog w = .ok (.iface 156 (.agg #[rt 58])) w := by kernel_rfl
theorem assignE (w : World) : (ReflectliteType.relation "AssignableTo" ReflectliteType.assignableTo #[.agg #[rt 58], .iface 156 (.agg #[rt 58])]).run Tryz.prog w = .ok (.bool true) w := by kernel_rfl
theorem valueOfE (n : Int) (w : World) : (ReflectliteValue.unpack (.iface 58 (.int .i64 n))).run Tryz.prog w
    = .ok (.agg #[rt 58, .pointer (some ⟨w.heap.size, 0, none⟩), .int .u64 130]) (w.alloc (.cells #[.int .i64 n] 58)) := by kernel_rfl
theorem elemOfP (w : World) : (Rtype.elem? 96).run Tryz.prog w = .ok (some 58) w := by kernel_rfl
theorem mkE (p : Addr) (w : World) : (ReflectliteValue.mk 58 p ReflectliteValue.flagAddr).run Tryz.prog w = .ok (.agg #[rt 58, .pointer (some p), .int .u64 386]) w := by kernel_rfl
theorem elemVP (a p : Addr) (W : World) (ha : W.cell? a = some (.pointer (some p))) :
    (ReflectliteValue.method (ReflectliteValue.valueError "reflectlite.Value.Elem" 0) ReflectliteValue.elem #[.agg #[rt 96, .pointer (some a), .int .u64 150]]).run Tryz.prog W
      = .ok (.agg #[rt 58, .pointer (some p), .int .u64 386]) W := by
  rw [rlm]
  simp only [Sem.run_bind, partsP, Result.andThen]
  simp [ReflectliteValue.elem, loadVar, isAgg, underlying, Tryz.underlying96, ha, Result.andThen, elemOfP, mkE]
theorem rls (v x : Value) : ReflectliteValue.set #[v, x] = (do
    let (some (dst, a, fl), some (src, b, _)) := (← ReflectliteValue.parts v, ← ReflectliteValue.parts x)
      | unsupported (.noEntry "extern/(internal/reflectlite.Value).Set.zeroValue")
    if fl / ReflectliteValue.flagAddr % 2 == 0 then unsupported (.noEntry "extern/(internal/reflectlite.Value).Set.unaddressable")
    let val ← loadVar src b
    if ← Rtype.directlyAssignable dst src then storeVar dst a val
    else if ← Rtype.implements dst src then
      if (← Rtype.kind src) == 20 then
        match val with
        | .nilIface => unsupported (.noEntry "extern/reflectlite: a nil value of one interface type handed on as a value of another")
        | _ => storeVar dst a val
      else storeVar dst a (.iface src val)
    else panicString ("reflectlite.Set: value of type " ++ (← Rtype.spelt src) ++ " is not assignable to type " ++ (← Rtype.spelt dst))
    pure (.tuple #[])) := rfl
theorem partsEa (a : Addr) (w : World) : (ReflectliteValue.parts (.agg #[rt 58, .pointer (some a), .int .u64 386])).run Tryz.prog w = .ok (some (58, a, 386)) w := by kernel_rfl
theorem partsE (a : Addr) (w : World) : (ReflectliteValue.parts (.agg #[rt 58, .pointer (some a), .int .u64 130])).run Tryz.prog w = .ok (some (58, a, 130)) w := by kernel_rfl
theorem directE (w : World) : (Rtype.directlyAssignable 58 58).run Tryz.prog w = .ok true w := by kernel_rfl
theorem setE (ta b : Addr) (n : Int) (old : Value) (W : World) (hb : W.cell? b = some (.int .i64 n)) (ht : W.cell? ta = some old) (hf : W.frozen? ta = false) :
    (ReflectliteValue.set #[.agg #[rt 58, .pointer (some ta), .int .u64 386], .agg #[rt 58, .pointer (some b), .int .u64 130]]).run Tryz.prog W
      = .ok (.tuple #[]) (W.setCell ta (.int .i64 n)) := by
  rw [rls]
  simp only [Sem.run_bind, partsEa, partsE, Result.andThen]
  simp [ReflectliteValue.flagAddr, loadVar, isAgg, underlying, Tryz.underlying58, hb, Result.andThen, directE, storeVar, Value.cells, storeCells, Addr.add]
  rw [run_store Tryz.prog W ta _ _ (by rfl)]
  simp [ht, hf]
end Go.Proofs.YtafdigdopeahdaaGreatDoor
