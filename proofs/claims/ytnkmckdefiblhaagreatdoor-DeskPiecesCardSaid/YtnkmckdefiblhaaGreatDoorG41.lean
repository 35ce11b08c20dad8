/- desk.line: a line is answered (the walk). -/
import Derived.Test.YtnkmckdefiblhaaGreatDoorProg
import Derived.Test.YtnkmckdefiblhaaGreatDoorG40
import Derived.Test.YtnkmckdefiblhaaGreatDoorShelfA
import Derived.Defers
import Derived.Recover
namespace Go.Proofs.YtnkmckdefiblhaaGreatDoor
open Go.RowKit Go.Shelf

set_option maxRecDepth 100000 in
theorem blank_any (x : Nat) (w : World) : Calls Tryz.prog 21 #[.int .i32 (x : Int)] w fun e w' => e = .returned (.bool (blank x)) ∧ w' = w := by
  have hb : blank x = ((x : Int) == 32) := by
    unfold blank
    rw [Bool.eq_iff_iff, beq_iff_eq, beq_iff_eq]; omega
  rw [hb]
  go_enter Tryz.func21, Tryz.ntmps21
  go_wp2_with fail
  go_ret
  exact ⟨rfl, rfl⟩
theorem fields_any (s : ByteArray) (w : World) (hs : s.size ≤ 1048576) :
    Calls Tryz.prog 20 #[.string s, .func (.func 21) #[] #[]] w fun e w' => ∃ a, e = .returned (.slice (some ⟨a, 0, none⟩) (Lib.goFieldsP blank s).length (Lib.goFieldsP blank s).length) ∧ w.heap.size ≤ a ∧
      ownsTs w' w.heap.size (.slice (some ⟨a, 0, none⟩) (Lib.goFieldsP blank s).length (Lib.goFieldsP blank s).length) (Lib.goFieldsP blank s) ∧ Below w.heap.size w w' :=
  Any.strings_FieldsFunc_grows Tryz.fieldsL 21 #[] (enters_of Tryz.func21 (by kernel_rfl) rfl) blank s w (by omega)
    (fun W x _ _ => (blank_any x W).mono fun e w' h => ⟨h.1, h.2 ▸ Below.refl _ _⟩) (by kernel_rfl) (by kernel_rfl)
def LinePost (x : ByteArray × DkM) (w : World) (A : Blk) (db n : Nat) (e : Ending) (w' : World) : Prop := e = .returned (.string x.1) ∧ ∃ A', dkIn w' A' db (n + 200) x.2 ∧ step w w' A A'
theorem set1 {w : World} {b : Nat} {v0 : Value} {t : TypeId} (h : w.heap[b]? = some (.cells #[v0] t (0, 0))) (x : Value) :
    (w.setCell ⟨b, 0, none⟩ x).heap[b]? = some (.cells #[x] t (0, 0)) ∧ w.grownBy (w.setCell ⟨b, 0, none⟩ x) (some b) := ⟨heap_setCell h _, grown_setCell _ _ _ _⟩
theorem results_cell1 {fn : Func} {p : Tmp} {ty : TypeId} (h : fn.results = #[.cell p ty]) (tmps : Array Value) (P : Program) (w : World) :
    (results fn tmps).run P w = ((asAddr (tmps.getD p undef)).run P w).andThen fun a w₁ => (loadVar ty a).run P w₁ := by
  simp only [results, h]
  simp [Sem.run_bind, Result.andThen]
theorem line_result (tmps : Array Value) (w : World) (ob : Nat) (x : ByteArray) (ht : tmps.getD 4 undef = .pointer (some ⟨ob, 0, none⟩)) (hb : w.heap[ob]? = some (.cells #[.string x] 9 (0, 0))) :
    (results Tryz.f9 tmps).run Tryz.prog w = .ok (.string x) w := by
  have hc : w.cell? ⟨ob, 0, none⟩ = some (.string x) := by rw [cell_in, hb]; rfl
  rw [results_cell1 (show Tryz.f9.results = #[.cell 4 9] from rfl), ht]
  simp [go_sem, hc]
/-- A line that returns: nothing is recovered. -/
theorem line_ret {R : Ending → World → Prop} {tmps : Array Value} {w : World} {ob : Nat} {x : ByteArray} (ht : tmps.getD 4 undef = .pointer (some ⟨ob, 0, none⟩)) (hb : w.heap[ob]? = some (.cells #[.string x] 9 (0, 0))) (h : R (.returned (.string x)) w) :
    Leaves Tryz.prog Tryz.f9 tmps R [{ target := .fn (.func 18) #[.pointer (some ⟨ob, 0, none⟩)], args := #[] }] .returning w := by
  refine leaves_cons (f := 18) (args := #[.pointer (some ⟨ob, 0, none⟩)]) (by simp) (by simp [go_sem]) ?_
  refine (catch_idle ⟨ob, 0, none⟩ w).mono ?_
  rintro e u' w' ⟨rfl, rfl, rfl⟩
  exact ⟨.string x, line_result tmps _ ob x ht hb, h⟩
/-- A line in which something is thrown. -/
theorem line_thrown {R : Ending → World → Prop} {tmps : Array Value} {w : World} {ob : Nat} {v : Value} {n : Int} {F : Blk} (ht : tmps.getD 4 undef = .pointer (some ⟨ob, 0, none⟩)) (hb : w.heap[ob]? = some (.cells #[v] 9 (0, 0))) (hG : GlobD w F) (hn : 0 ≤ n ∧ n ≤ 100)
    (h : ∀ W, (∃ x, W = ext w x) → R (.returned (.string (errS n))) (W.setCell ⟨ob, 0, none⟩ (.string (errS n)))) :
    Leaves Tryz.prog Tryz.f9 tmps R [{ target := .fn (.func 18) #[.pointer (some ⟨ob, 0, none⟩)], args := #[] }] (.panicking (thrown n)) w := by
  refine leaves_cons (f := 18) (args := #[.pointer (some ⟨ob, 0, none⟩)]) (by simp) (by simp [go_sem]) ?_
  refine (catch_thrown ob n v w hG hn hb).mono ?_
  rintro e u' w' ⟨rfl, rfl, W, hx, rfl⟩
  have hbW := ((ext_iff.1 hx).block _ (lt_of_heap hb)).trans hb
  exact ⟨.string (errS n), line_result tmps _ ob _ ht (set1 hbW _).1, h W hx⟩
/-! ### Numbers of errors -/
def ansOk : Ans → Prop
  | .ok _ => True
  | .er n => 0 ≤ n ∧ n ≤ 100
theorem doF_le (S : SrcM) (e : Ev) : 0 ≤ doF S e ∧ doF S e ≤ 100 := by
  unfold doF tellF tellX
  split
  · omega
  · split
    · omega
    · split
      · omega
      · split
        · omega
        · split <;> omega
theorem cmd_ansOk (k : ByteArray) (M : DkM) (ws : List ByteArray) : ansOk (cmdA k M ws).1 := by
  have h3 : ansOk (.er 3) := ⟨by decide, by decide⟩
  unfold cmdA
  cases hf : findS k cmdL with
  | none => exact h3
  | some f =>
    obtain ⟨p, hp, _, rfl⟩ := findS_mem hf
    dsimp only
    have hdo : ∀ name, ansOk (doA name M ws).1 := fun name => by
      unfold doA
      split
      · unfold doE
        split
        · trivial
        · exact doF_le _ _
      · exact h3
    unfold cmdL at hp
    simp only [List.mem_cons, List.not_mem_nil, or_false] at hp
    rcases hp with rfl | rfl | rfl | rfl | rfl | rfl | rfl | rfl | rfl | rfl | rfl | rfl | rfl | rfl | rfl | rfl <;> dsimp only
    · unfold wireD
      split
      · split
        · exact h3
        · split
          · trivial
          · exact ⟨by decide, by decide⟩
      · exact h3
    · trivial
    · unfold subjectsD; split <;> first | trivial | exact h3
    · unfold saveD; split <;> first | trivial | exact h3
    · unfold rowsD; split <;> first | trivial | exact h3
    · unfold readD
      split
      · split <;> first | trivial | exact h3
      · exact h3
    · exact hdo _
    · unfold freshA; split <;> first | trivial | exact h3
    · unfold lostD; split <;> first | trivial | exact h3
    · unfold loadD
      split
      · split
        · trivial
        · exact ⟨by decide, by decide⟩
      · exact h3
    · unfold helpD; split <;> first | trivial | exact h3
    · exact hdo _
    · unfold feedD; split <;> first | trivial | exact h3
    · exact hdo _
    · unfold cellsD; split <;> first | trivial | exact h3
    · unfold blockD
      split
      · split
        · exact h3
        · split
          · trivial
          · exact ⟨by decide, by decide⟩
      · exact h3
/-! ### The walks -/
set_option maxRecDepth 100000 in
set_option maxHeartbeats 4000000 in
theorem line_none (s : ByteArray) (w : World) (A : Blk) (db n : Nat) (M : DkM) (hd : dkIn w A db n M) (hs : s.size ≤ 29000) (hf : Lib.goFieldsP blank s = []) :
    Calls Tryz.prog 9 #[.pointer (some ⟨db, 0, none⟩), .string s] w (LinePost (⟨#[111, 107]⟩, M) w A db n) := by
  have hmf : ∀ (fn : Fn) (first cap : Array Value) (w : World), (Instr.makeFunc fn first cap).run Tryz.prog w = .ok (.func fn first cap) w := fun _ _ _ _ => rfl
  have FF := fun w => fields_any s w (by omega)
  rw [hf] at FF
  have HD := Lib.hid hd
  have X1 := Lib.hid (ext_alloc (.cells #[.string ⟨#[]⟩] 9) (ext_refl w))
  have B1 := Lib.hid (heap_alloc_at w (.cells #[.string ⟨#[]⟩] 9))
  have HN := Lib.hid (fun i (hi : A i) => hd.lt i hi)
  clear hd hf
  go_enter_defers Tryz.func9, Tryz.ntmps9
  go_wp2_with fail
  generalize w.alloc (.cells #[.string ⟨#[]⟩] 9) = w1 at *
  generalize hob : w.heap.size = ob at *
  have HOB := Lib.hid hob
  clear hob
  refine (FF w1).mono ?_
  rintro _ w2 ⟨a, rfl, _, _, hb⟩
  have X2 := Lib.hid (ext_trans X1.out (ext_of hb))
  have b2 := (hb.block _ (lt_of_heap B1.out)).trans B1.out
  have ff := free_of_heap b2
  have c0 : w2.cell? ⟨ob, 0, none⟩ = some (.string ⟨#[]⟩) := by rw [cell_in, b2]; rfl
  have lo := lt_of_heap b2
  have HH := Lib.hid (set1 b2 (.string ⟨#[111, 107]⟩))
  clear hb FF b2
  go_wp2_with fail
  generalize w2.setCell ⟨ob, 0, none⟩ (.string ⟨#[111, 107]⟩) = w3 at HH ⊢
  obtain ⟨h1, h2⟩ := HH.out
  refine line_ret rfl h1 ⟨rfl, A, ?_, ?_⟩
  · exact ((HD.out.ext X2.out).same (fun i hi => h2.block i (Nat.lt_of_lt_of_le (HN.out i hi) (by have := (ext_iff.1 X2.out).size; rw [HOB.out] at this; exact this)) (fun e => by injection e with e; have := HN.out i hi; omega)) h2.size).mono (by omega)
  · exact (step.of_ext A X2.out).put h2 (.inr (by rw [HOB.out]; exact Nat.le_refl _))
theorem words_own {w : World} {base a L c : Nat} {ws : List ByteArray} (h : ownsTs w base (.slice (some ⟨a, 0, none⟩) L c) ws) : a < w.heap.size ∧ ∀ j s, ws[j]? = some s → w.cell? ⟨a, j, none⟩ = some (.string s) := by
  have h0 := h
  obtain ⟨_, ⟨h1, _⟩ | ⟨g, cap, cur, h1, hb, hh, _⟩⟩ := h
  · cases h1
  · injection h1 with h1 _ _
    injection h1 with h1
    injection h1 with h1
    subst h1
    refine ⟨lt_of_heap hh, fun j s hj => ?_⟩
    have := World.ownsRow.cells h0 (g := a) rfl j (.string s) (by rw [List.getElem?_map, hj]; rfl)
    have hadd : (⟨a, 0, none⟩ : Addr).add j = ⟨a, j, none⟩ := by unfold Addr.add; split <;> simp_all
    rw [hadd] at this; exact this
set_option maxRecDepth 100000 in
set_option maxHeartbeats 4000000 in
theorem line_bad (s : ByteArray) (w : World) (A : Blk) (db n : Nat) (M : DkM) (hd : dkIn w A db n M) (hG : GlobD w A) (hs : s.size ≤ 29000) (k : ByteArray) (ws : List ByteArray) (hf : Lib.goFieldsP blank s = k :: ws) (hk : findS k cmds = none) :
    Calls Tryz.prog 9 #[.pointer (some ⟨db, 0, none⟩), .string s] w (LinePost (errS 3, M) w A db n) := by
  have hmf : ∀ (fn : Fn) (first cap : Array Value) (w : World), (Instr.makeFunc fn first cap).run Tryz.prog w = .ok (.func fn first cap) w := fun _ _ _ _ => rfl
  have hnil : ∀ w : World, (binOp BinOp.eql 32 .nilFunc .nilFunc).run Tryz.prog w = .ok (.bool true) w := fun _ => by kernel_rfl
  have hlw := fields_len blank s
  rw [hf, lenW_cons] at hlw
  have FF := fun w => fields_any s w (by omega)
  rw [hf] at FF
  have DO := fun w => does_any db k w (by unfold maxLen; omega)
  rw [hk] at DO
  simp only [Option.getD_none, encF] at DO
  have HD := Lib.hid hd
  have G := Lib.hid hG
  have X1 := Lib.hid (ext_alloc (.cells #[.string ⟨#[]⟩] 9) (ext_refl w))
  have B1 := Lib.hid (heap_alloc_at w (.cells #[.string ⟨#[]⟩] 9))
  have HN := Lib.hid (fun i (hi : A i) => hd.lt i hi)
  have MB := fun w hE => must_bad 3 w hE
  unfold errV at MB
  have hL : (k :: ws).length = ws.length + 1 := rfl
  rw [hL] at FF
  clear hd hf hG hk hlw hL
  go_enter_defers Tryz.func9, Tryz.ntmps9
  go_wp2_with fail
  generalize w.alloc (.cells #[.string ⟨#[]⟩] 9) = w1 at *
  generalize hob : w.heap.size = ob at *
  have HOB := Lib.hid hob
  clear hob
  refine (FF w1).mono ?_
  rintro _ w2 ⟨a, rfl, _, ho, hb⟩
  have X2 := Lib.hid (ext_trans X1.out (ext_of hb))
  have b2 := Lib.hid ((hb.block _ (lt_of_heap B1.out)).trans B1.out)
  obtain ⟨la, hw⟩ := words_own ho
  have e0 := hw 0 k rfl
  clear hb FF ho hw B1
  go_wp2_with fail
  refine (DO w2).mono ?_
  rintro _ w3 ⟨rfl, hx⟩
  have X3 := Lib.hid (ext_trans X2.out hx)
  have b3 := Lib.hid (((ext_iff.1 hx).block _ (lt_of_heap b2.out)).trans b2.out)
  clear hx DO e0 la b2
  go_wp2_with fail
  refine (MB _ (G.out.ext X3.out).glob.err).mono ?_
  rintro _ w4 ⟨rfl, hx⟩
  have X4 := Lib.hid (ext_trans X3.out hx)
  have b4 := Lib.hid (((ext_iff.1 hx).block _ (lt_of_heap b3.out)).trans b3.out)
  clear hx MB b3
  go_wp2_with fail
  refine line_thrown rfl b4.out (G.out.ext X4.out) ⟨by decide, by decide⟩ (fun W hW => ⟨rfl, A, ?_, ?_⟩)
  · have hbW := ((ext_iff.1 hW).block _ (lt_of_heap b4.out)).trans b4.out
    have h2 := (set1 hbW (.string (errS 3))).2
    have X5 := ext_trans X4.out hW
    exact ((HD.out.ext X5).same (fun i hi => h2.block i (Nat.lt_of_lt_of_le (HN.out i hi) (by have := (ext_iff.1 X5).size; rw [HOB.out] at this; exact this)) (fun e => by injection e with e; have := HN.out i hi; omega)) h2.size).mono (by omega)
  · have hbW := ((ext_iff.1 hW).block _ (lt_of_heap b4.out)).trans b4.out
    exact (step.of_ext A (ext_trans X4.out hW)).put (set1 hbW (.string (errS 3))).2 (.inr (by rw [HOB.out]; exact Nat.le_refl _))
set_option maxRecDepth 100000 in
set_option maxHeartbeats 4000000 in
theorem line_cmd (s : ByteArray) (w : World) (A : Blk) (db n : Nat) (M : DkM) (hd : dkIn w A db n M) (hI : DkInv M) (hG : GlobD w A) (hs : s.size ≤ 29000) (hn : n ≤ 900000) (k : ByteArray) (ws : List ByteArray) (hf : Lib.goFieldsP blank s = k :: ws) (f : Nat) (D : Cmd) (hk : findS k cmds = some (some f)) (hD : findS k cmdL = some D) (hok : CmdOk f D) :
    Calls Tryz.prog 9 #[.pointer (some ⟨db, 0, none⟩), .string s] w (LinePost (ansT (D M ws).1, (D M ws).2) w A db n) := by
  have hmf : ∀ (fn : Fn) (first cap : Array Value) (w : World), (Instr.makeFunc fn first cap).run Tryz.prog w = .ok (.func fn first cap) w := fun _ _ _ _ => rfl
  have hnil : ∀ (w : World), (binOp BinOp.eql 32 (.func (.func f) #[.pointer (some ⟨db, 0, none⟩)] #[]) .nilFunc).run Tryz.prog w = .ok (.bool false) w := fun _ => by kernel_rfl
  have hao := cmd_ansOk k M ws
  unfold cmdA at hao
  rw [hD] at hao
  dsimp only at hao
  have hlw := fields_len blank s
  rw [hf, lenW_cons] at hlw
  have FF := fun w => fields_any s w (by omega)
  rw [hf] at FF
  have DO := fun w => does_any db k w (by unfold maxLen; omega)
  rw [hk] at DO
  simp only [Option.getD_some, encF] at DO
  have SW := Lib.hid (smallW_of (ws := ws) (by omega))
  have HD := Lib.hid hd
  have G := Lib.hid hG
  have IV := Lib.hid hI
  have CO := Lib.hid hok.2
  have hef := hok.1
  have X1 := Lib.hid (ext_alloc (.cells #[.string ⟨#[]⟩] 9) (ext_refl w))
  have B1 := Lib.hid (heap_alloc_at w (.cells #[.string ⟨#[]⟩] 9))
  have HN := Lib.hid (fun i (hi : A i) => hd.lt i hi)
  have hL : (k :: ws).length = ws.length + 1 := rfl
  rw [hL] at FF
  generalize hDM : D M ws = x at *
  have HDM := Lib.hid hDM
  clear hd hf hG hk hlw hL hD hok hI hDM
  go_enter_defers Tryz.func9, Tryz.ntmps9
  go_wp2_with fail
  generalize w.alloc (.cells #[.string ⟨#[]⟩] 9) = w1 at *
  generalize hob : w.heap.size = ob at *
  have HOB := Lib.hid hob
  clear hob
  refine (FF w1).mono ?_
  rintro _ w2 ⟨a, rfl, ha, ho, hb⟩
  have X2 := Lib.hid (ext_trans X1.out (ext_of hb))
  have b2 := Lib.hid ((hb.block _ (lt_of_heap B1.out)).trans B1.out)
  obtain ⟨la, hw⟩ := words_own ho
  have e0 := hw 0 k rfl
  have HW := Lib.hid hw
  have NO := Lib.hid (show ¬ A ob from fun h => by have := HN.out ob h; omega)
  have NA := Lib.hid (show ¬ A a from fun h => by have := HN.out a h; have := (ext_iff.1 X1.out).size; have := HOB.out; omega)
  clear hb FF ho hw B1 ha
  go_wp2_with fail
  refine (DO w2).mono ?_
  rintro _ w3 ⟨rfl, hx⟩
  have X3 := Lib.hid (ext_trans X2.out hx)
  have b3 := Lib.hid (((ext_iff.1 hx).block _ (lt_of_heap b2.out)).trans b2.out)
  have W3 := Lib.hid (fun j s (hj : (k :: ws)[j]? = some s) => cell_below (ext_iff.1 hx) la (HW.out j s hj))
  have LA := Lib.hid (Nat.lt_of_lt_of_le la (ext_iff.1 hx).size)
  clear hx DO e0 la b2 HW
  go_wp2_with fail
  · have h0 : ws = [] := by assumption
    subst h0
    have C := CO.out (some ⟨a, 0, none⟩) [] 0 w3 A db n M ⟨HD.out.ext X3.out, IV.out, G.out.ext X3.out, (fun j s hj => by cases hj), SW.out, Nat.le_refl _, hn⟩
    change Calls Tryz.prog f #[.pointer (some ⟨db, 0, none⟩), .slice (some ⟨a, 0, none⟩) 0 0] w3 _ at C
    rw [HDM.out] at C
    obtain ⟨ans, M'⟩ := x
    cases ans with
    | ok o =>
      refine C.mono ?_
      rintro e w4 ⟨he, A4, h4, st4⟩
      have he : e = .returned (.string o) := he
      subst he
      obtain ⟨k1, k2, k3⟩ := st4.keep (lt_of_heap b3.out) NO.out
      have b4 := k1.trans b3.out
      have H4 := Lib.hid h4
      have S4 := Lib.hid ((step.of_ext A X3.out).trans st4)
      have NO4 := Lib.hid k3
      have ff := free_of_heap b4
      have c0 : w4.cell? ⟨ob, 0, none⟩ = some (.string ⟨#[]⟩) := by rw [cell_in, b4]; rfl
      have HH := Lib.hid (set1 b4 (.string o))
      clear h4 st4 k1 k3 b4 C
      go_wp2_with fail
      generalize w4.setCell ⟨ob, 0, none⟩ (.string o) = w5 at HH ⊢
      obtain ⟨h1, h2⟩ := HH.out
      refine line_ret rfl h1 ⟨rfl, A4, ?_, S4.out.put h2 (.inr (by rw [HOB.out]; exact Nat.le_refl _))⟩
      exact H4.out.same (fun i hi => h2.block i (H4.out.lt i hi) (fun e => by injection e with e; subst e; exact NO4.out hi)) h2.size
    | er m =>
      refine C.mono ?_
      rintro e w4 ⟨he, A4, h4, st4⟩
      have he : e = .panicked (thrown m) := he
      subst he
      obtain ⟨k1, k2, k3⟩ := st4.keep (lt_of_heap b3.out) NO.out
      have b4 := Lib.hid (k1.trans b3.out)
      have H4 := Lib.hid h4
      have S4 := Lib.hid ((step.of_ext A X3.out).trans st4)
      have G4 := Lib.hid ((G.out.ext X3.out).step st4)
      have NO4 := Lib.hid k3
      clear h4 st4 k1 k2 k3 C
      go_wp2_with fail
      refine line_thrown rfl b4.out G4.out hao (fun W hW => ⟨rfl, A4, ?_, ?_⟩)
      · have hbW := ((ext_iff.1 hW).block _ (lt_of_heap b4.out)).trans b4.out
        have h2 := (set1 hbW (.string (errS m))).2
        have H5 := H4.out.ext hW
        exact H5.same (fun i hi => h2.block i (H5.lt i hi) (fun e => by injection e with e; subst e; exact NO4.out hi)) h2.size
      · have hbW := ((ext_iff.1 hW).block _ (lt_of_heap b4.out)).trans b4.out
        exact (S4.out.trans (.of_ext _ hW)).put (set1 hbW (.string (errS m))).2 (.inr (by rw [HOB.out]; exact Nat.le_refl _))
  · have C := CO.out (some ⟨a, 1, none⟩) ws ws.length w3 A db n M ⟨HD.out.ext X3.out, IV.out, G.out.ext X3.out, fun j s hj => ⟨a, 1, rfl, LA.out, NA.out, by rw [Nat.add_comm]; exact W3.out (j + 1) s hj⟩, SW.out, Nat.le_refl _, hn⟩
    rw [HDM.out] at C
    obtain ⟨ans, M'⟩ := x
    cases ans with
    | ok o =>
      refine C.mono ?_
      rintro e w4 ⟨he, A4, h4, st4⟩
      have he : e = .returned (.string o) := he
      subst he
      obtain ⟨k1, k2, k3⟩ := st4.keep (lt_of_heap b3.out) NO.out
      have b4 := k1.trans b3.out
      have H4 := Lib.hid h4
      have S4 := Lib.hid ((step.of_ext A X3.out).trans st4)
      have NO4 := Lib.hid k3
      have ff := free_of_heap b4
      have c0 : w4.cell? ⟨ob, 0, none⟩ = some (.string ⟨#[]⟩) := by rw [cell_in, b4]; rfl
      have HH := Lib.hid (set1 b4 (.string o))
      clear h4 st4 k1 k3 b4 C
      go_wp2_with fail
      generalize w4.setCell ⟨ob, 0, none⟩ (.string o) = w5 at HH ⊢
      obtain ⟨h1, h2⟩ := HH.out
      refine line_ret rfl h1 ⟨rfl, A4, ?_, S4.out.put h2 (.inr (by rw [HOB.out]; exact Nat.le_refl _))⟩
      exact H4.out.same (fun i hi => h2.block i (H4.out.lt i hi) (fun e => by injection e with e; subst e; exact NO4.out hi)) h2.size
    | er m =>
      refine C.mono ?_
      rintro e w4 ⟨he, A4, h4, st4⟩
      have he : e = .panicked (thrown m) := he
      subst he
      obtain ⟨k1, k2, k3⟩ := st4.keep (lt_of_heap b3.out) NO.out
      have b4 := Lib.hid (k1.trans b3.out)
      have H4 := Lib.hid h4
      have S4 := Lib.hid ((step.of_ext A X3.out).trans st4)
      have G4 := Lib.hid ((G.out.ext X3.out).step st4)
      have NO4 := Lib.hid k3
      clear h4 st4 k1 k2 k3 C
      go_wp2_with fail
      refine line_thrown rfl b4.out G4.out hao (fun W hW => ⟨rfl, A4, ?_, ?_⟩)
      · have hbW := ((ext_iff.1 hW).block _ (lt_of_heap b4.out)).trans b4.out
        have h2 := (set1 hbW (.string (errS m))).2
        have H5 := H4.out.ext hW
        exact H5.same (fun i hi => h2.block i (H5.lt i hi) (fun e => by injection e with e; subst e; exact NO4.out hi)) h2.size
      · have hbW := ((ext_iff.1 hW).block _ (lt_of_heap b4.out)).trans b4.out
        exact (S4.out.trans (.of_ext _ hW)).put (set1 hbW (.string (errS m))).2 (.inr (by rw [HOB.out]; exact Nat.le_refl _))
theorem line_any (s : ByteArray) (w : World) (A : Blk) (db n : Nat) (M : DkM) (hd : dkIn w A db n M) (hI : DkInv M) (hG : GlobD w A) (hs : s.size ≤ 29000) (hn : n ≤ 900000) :
    Calls Tryz.prog 9 #[.pointer (some ⟨db, 0, none⟩), .string s] w (LinePost (lineA M s) w A db n) := by
  unfold lineA
  cases hf : Lib.goFieldsP blank s with
  | nil => exact line_none s w A db n M hd hs hf
  | cons k ws =>
    rcases cmds_cases k with ⟨h1, h2⟩ | ⟨f, D, h1, h2, h3⟩
    · have e : cmdA k M ws = (.er 3, M) := by unfold cmdA; rw [h2]
      dsimp only
      rw [e]
      exact line_bad s w A db n M hd hG hs k ws hf h1
    · have e : cmdA k M ws = D M ws := by unfold cmdA; rw [h2]
      dsimp only
      rw [e]
      exact line_cmd s w A db n M hd hI hG hs hn k ws hf f D h1 h2 h3
end Go.Proofs.YtnkmckdefiblhaaGreatDoor
