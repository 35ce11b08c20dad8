/- desk: package variables; Itoa; number (the walk). · desk: the deferred closure of line (the walk), and the blank's predicate. · feed.Tell where there is no room (the walk), and what Tell answers then. -/
import Derived.Test.YtnkmckdefiblhaaGreatDoorProg
import Derived.Test.YtnkmckdefiblhaaGreatDoorG25
import Derived.Test.YtnkmckdefiblhaaGreatDoorG19
import Derived.Test.YtnkmckdefiblhaaGreatDoorShelfA
import Derived.Test.YtnkmckdefiblhaaGreatDoorShelfD
import Derived.Lib.AtoiErrMem
import Derived.Lib.AppendIntMem
import Derived.Lib.AtoiAll
import Derived.Lib.ItoaLen
import Derived.Recover
import Derived.Defers
import Derived.Test.YtnkmckdefiblhaaGreatDoorG23
namespace Go.Proofs.YtnkmckdefiblhaaGreatDoor
open Go.RowKit Go.Shelf

/-! ### What the package variables hold, for the desk -/
def SynV (w : World) : Prop := ∃ te pe, w.cell? ⟨9, 0, none⟩ = some (.iface te pe)
def RngV (w : World) : Prop := ∃ te pe, w.cell? ⟨10, 0, none⟩ = some (.iface te pe)
def PowV (w : World) : Prop := Lib.TabIs Tryz.prog w "internal/strconv.uint64pow10" .u64 Lib.pow10Tab
structure GlobD (w : World) (F : Blk) : Prop where
  glob : Glob w F
  syn : SynV w
  rng : RngV w
  pow : PowV w
  lt : 5 < w.heap.size
  offd : ¬ F 9 ∧ ¬ F 10 ∧ ¬ F 5
theorem pow_named : Tryz.prog.globalNamed "internal/strconv.uint64pow10" = some 5 := by kernel_rfl
theorem GlobD.step {w w' : World} {F F' : Blk} (h : GlobD w F) (g : Go.Proofs.YtnkmckdefiblhaaGreatDoor.step w w' F F') : GlobD w' F' := by
  obtain ⟨t1, p1, c1⟩ := h.syn
  obtain ⟨t2, p2, c2⟩ := h.rng
  obtain ⟨o1, o2, o3⟩ := h.offd
  obtain ⟨b1, z1, n1⟩ := g.keep (block_lt_of_cell c1) o1
  obtain ⟨b2, z2, n2⟩ := g.keep (block_lt_of_cell c2) o2
  obtain ⟨b3, z3, n3⟩ := g.keep h.lt o3
  refine ⟨h.glob.step g, ⟨t1, p1, ?_⟩, ⟨t2, p2, ?_⟩, ?_, z3, n1, n2, n3⟩
  · rw [cell_in] at c1 ⊢; rw [b1]; exact c1
  · rw [cell_in] at c2 ⊢; rw [b2]; exact c2
  · have := h.pow
    unfold PowV Lib.TabIs at this ⊢
    rw [← this]
    unfold World.var?
    rw [pow_named]
    simp only [Option.bind_some, b3]
theorem GlobD.ext {w w' : World} {F : Blk} (h : GlobD w F) (hx : ∃ x, w' = Go.Proofs.YtnkmckdefiblhaaGreatDoor.ext w x) : GlobD w' F := h.step (.of_ext F hx)
theorem GlobD.sub {w : World} {F G : Blk} (h : GlobD w F) (hs : ∀ i, G i → F i) : GlobD w G :=
  ⟨h.glob.sub hs, h.syn, h.rng, h.pow, h.lt, fun e => h.offd.1 (hs _ e), fun e => h.offd.2.1 (hs _ e), fun e => h.offd.2.2 (hs _ e)⟩
/-! ### Itoa -/
def itoaT (n : Int) : ByteArray := ⟨(Lib.itoa n).toArray⟩
theorem itoa_size (n : Int) (h0 : -9223372036854775808 ≤ n) (h1 : n ≤ 9223372036854775807) : (itoaT n).size ≤ 21 := by
  have := Lib.itoa_length_le n h0 h1
  show (Lib.itoa n).toArray.size ≤ 21
  rw [List.size_toArray]; exact this
theorem itoa_any (n : Int) (w : World) {F : Blk} (hG : GlobD w F) (h0 : -9223372036854775808 ≤ n) (h1 : n ≤ 9223372036854775807) :
    Calls Tryz.prog 19 #[.int .i64 n] w fun e w' => e = .returned (.string (itoaT n)) ∧ ∃ x, w' = ext w x := by
  refine (Tryz.strconv_Itoa n h0 h1 w hG.pow).mono ?_
  rintro e w' ⟨rfl, k, os, rfl⟩
  exact ⟨rfl, ext_of (Lib.below_grow _ w (Nat.le_refl _) k os)⟩
/-! ### number -/
def numR (s : ByteArray) : Option Int := match Lib.atoiAll s.data.toList with
  | .ok v => if itoaT v = s then some v else none
  | _ => none
theorem numR_bounds {s : ByteArray} {v : Int} (h : numR s = some v) : -9223372036854775808 ≤ v ∧ v ≤ 9223372036854775807 := by
  unfold numR at h
  split at h
  · rename_i u hu
    split at h
    · injection h with h
      exact h ▸ Lib.atoiAll_bounds hu
    · cases h
  · cases h
def AtoiP (s : ByteArray) (e : Ending) : Prop := match Lib.atoiAll s.data.toList with
  | .ok v => e = .returned (.tuple #[.int .i64 v, .nilIface])
  | _ => ∃ n te pe, e = .returned (.tuple #[.int .i64 n, .iface te pe])
theorem atoi_any (s : ByteArray) (w : World) {F : Blk} (hG : GlobD w F) (hs : s.size ≤ 1048576) :
    Calls Tryz.prog 87 #[.string s] w fun e w' => AtoiP s e ∧ ∃ x, w' = ext w x := by
  obtain ⟨t1, p1, c1⟩ := hG.syn
  obtain ⟨t2, p2, c2⟩ := hG.rng
  have AT1 := fun v h => Any.strconv_Atoi_ok Tryz.atoiL s (by omega) v h w
  have AT2 := fun h => Any.strconv_Atoi_syntax Tryz.atoiL s (by omega) h _ w c1 (.inr ⟨_, _, rfl⟩)
  have AT3 := fun h => Any.strconv_Atoi_range Tryz.atoiL s (by omega) h _ w c2 (.inr ⟨_, _, rfl⟩)
  rcases h : Lib.atoiAll s.data.toList with v | _ | _
  · refine Calls.mono (AT1 v h) ?_
    rintro e w' ⟨rfl, hx⟩
    refine ⟨by unfold AtoiP; rw [h], ?_⟩
    rcases hx with rfl | ⟨t, rfl⟩
    · exact ext_refl _
    · exact ext_of (Lib.bytesWorld_below _ _ _)
  · refine Calls.mono (AT2 h) ?_
    rintro e w' ⟨N, rfl, _, _, hb⟩
    exact ⟨by unfold AtoiP; rw [h]; exact ⟨_, _, _, rfl⟩, ext_of hb⟩
  · refine Calls.mono (AT3 h) ?_
    rintro e w' ⟨N, rfl, _, _, hb⟩
    exact ⟨by unfold AtoiP; rw [h]; exact ⟨_, _, _, rfl⟩, ext_of hb⟩
set_option maxRecDepth 100000 in
set_option maxHeartbeats 4000000 in
theorem number_any (s : ByteArray) (w : World) {F : Blk} (hG : GlobD w F) (hs : s.size ≤ 1048576) :
    Calls Tryz.prog 55 #[.string s] w fun e w' => (∀ n, numR s = some n → e = .returned (.int .i64 n)) ∧ (numR s = none → e = .panicked (thrown 3)) ∧ ∃ x, w' = ext w x := by
  have MB := fun w hE => must_bad 3 w hE
  unfold errV at MB
  have G := Lib.hid hG
  have AT := atoi_any s w hG hs
  by_cases h : ∃ v, Lib.atoiAll s.data.toList = .ok v
  · obtain ⟨v, h⟩ := h
    have hb := Lib.atoiAll_bounds h
    have AP : ∀ e, AtoiP s e → e = .returned (.tuple #[.int .i64 v, .nilIface]) := fun e he => by unfold AtoiP at he; rw [h] at he; exact he
    have IT := fun w (hG : GlobD w F) => itoa_any v w hG hb.1 hb.2
    by_cases hv : itoaT v = s
    · have NR := Lib.hid (show numR s = some v by unfold numR; rw [h]; exact if_pos hv)
      have hq : (s.toList == s.toList) = true := by simp
      rw [hv] at IT
      clear hG h hv hs hb
      go_enter Tryz.func55, Tryz.ntmps55
      go_wp2_with fail
      refine AT.mono ?_
      rintro e w1 ⟨he, hx⟩
      obtain rfl := AP e he
      have X := Lib.hid hx
      clear hx AT AP he
      go_wp2_with fail
      refine (IT _ (G.out.ext X.out)).mono ?_
      rintro e w2 ⟨rfl, hx⟩
      have X2 := Lib.hid (ext_trans X.out hx)
      clear hx IT X
      go_wp2_with fail
      go_ret
      exact ⟨fun n hn => (by rw [NR.out] at hn; injection hn with hn; subst hn; rfl), fun hn => (by rw [NR.out] at hn; cases hn), X2.out⟩
    · have NR := Lib.hid (show numR s = none by unfold numR; rw [h]; exact if_neg hv)
      have hq : ((itoaT v).toList == s.toList) = false := by
        rw [beq_eq_false_iff_ne]
        intro e
        exact hv (txt_inj (by rw [ByteArray.toList_eq, ByteArray.toList_eq] at e; exact e))
      clear hG h hv hs hb
      generalize itoaT v = u at IT hq
      go_enter Tryz.func55, Tryz.ntmps55
      go_wp2_with fail
      refine AT.mono ?_
      rintro e w1 ⟨he, hx⟩
      obtain rfl := AP e he
      have X := Lib.hid hx
      clear hx AT AP he
      go_wp2_with fail
      refine (IT _ (G.out.ext X.out)).mono ?_
      rintro e w2 ⟨rfl, hx⟩
      have X2 := Lib.hid (ext_trans X.out hx)
      clear hx IT X
      go_wp2_with fail
      refine (MB _ (G.out.ext X2.out).glob.err).mono ?_
      rintro _ w3 ⟨rfl, hx⟩
      have X3 := Lib.hid (ext_trans X2.out hx)
      clear hx MB
      go_wp2_with fail
      exact ⟨rfl, fun n hn => (by rw [NR.out] at hn; cases hn), fun _ => rfl, X3.out⟩
  · have NR : numR s = none := by
      unfold numR
      split
      · rename_i v hv; exact absurd ⟨v, hv⟩ h
      · rfl
    have NR := Lib.hid NR
    have AP : ∀ e, AtoiP s e → ∃ n te pe, e = .returned (.tuple #[.int .i64 n, .iface te pe]) := fun e he => by
      unfold AtoiP at he
      split at he
      · rename_i v hv; exact absurd ⟨v, hv⟩ h
      · exact he
    clear hG h hs
    go_enter Tryz.func55, Tryz.ntmps55
    go_wp2_with fail
    refine AT.mono ?_
    rintro e w1 ⟨he, hx⟩
    obtain ⟨n, te, pe, rfl⟩ := AP e he
    have X := Lib.hid hx
    clear hx AT AP he
    go_wp2_with fail
    refine (MB _ (G.out.ext X.out).glob.err).mono ?_
    rintro _ w3 ⟨rfl, hx⟩
    have X3 := Lib.hid (ext_trans X.out hx)
    clear hx MB
    go_wp2_with fail
    exact ⟨rfl, fun n hn => (by rw [NR.out] at hn; cases hn), fun _ => rfl, X3.out⟩
end Go.Proofs.YtnkmckdefiblhaaGreatDoor
namespace Go.Proofs.YtnkmckdefiblhaaGreatDoor
open Go.RowKit Go.Shelf

def errS (n : Int) : ByteArray := ⟨#[101, 114, 114, 111, 114, 32]⟩ ++ itoaT n
theorem assert_wrong (n : Int) (w : World) : (Instr.typeAssert (.iface 55 (.agg #[.int .i64 n])) 20 55 true).run Tryz.prog w = .ok (.tuple #[.agg #[.int .i64 n], .bool true]) w := by kernel_rfl
theorem catch_end {c₀ : Frame} {cs : List Frame} {R : Ending → FrameMode → World → Prop} {Q : Exit → Act → List Frame → World → Prop} (hQ : Q = bodyPostS Tryz.prog Tryz.f18 c₀ cs R) (u : FrameMode) (T : Array Value) (w : World) (h : R (.returned (.tuple #[])) u w) : Q .normal { tmps := T, defers := [] } ({ c₀ with mode := u } :: cs) w := by
  subst hQ
  exact ⟨rfl, u, rfl, _, results_none rfl _ _ _, h⟩
set_option maxRecDepth 100000 in
set_option maxHeartbeats 1000000 in
theorem catch_thrown (ob : Nat) (n : Int) (x : Value) (w : World) {F : Blk} (hG : GlobD w F) (hn : 0 ≤ n ∧ n ≤ 100) (ho : w.heap[ob]? = some (.cells #[x] 9 (0, 0))) :
    CallsD Tryz.prog 18 #[.pointer (some ⟨ob, 0, none⟩)] (.panicking (thrown n)) w fun e u' w' =>
      e = .returned (.tuple #[]) ∧ u' = .panicking [{ v := .iface 55 (.agg #[.int .i64 n]), recovered := true }] ∧ ∃ W, (∃ x, W = ext w x) ∧ w' = W.setCell ⟨ob, 0, none⟩ (.string (errS n)) := by
  have IT := fun w (hG : GlobD w F) => itoa_any n w hG (by omega) (by omega)
  have G := Lib.hid hG
  have O := Lib.hid ho
  have hz := itoa_size n (by omega) (by omega)
  clear hG ho hn
  unfold thrown
  have hta := assert_wrong n
  refine callsD_of_wpS Tryz.func18 rfl fun c₀ cs hu => ?_
  obtain ⟨Q, hQ⟩ : ∃ Q, Q = bodyPostS Tryz.prog Tryz.f18 c₀ cs (fun e u' w' =>
      e = .returned (.tuple #[]) ∧ u' = .panicking [{ v := .iface 55 (.agg #[.int .i64 n]), recovered := true }] ∧ ∃ W, (∃ x, W = ext w x) ∧ w' = W.setCell ⟨ob, 0, none⟩ (.string (errS n))) := ⟨_, rfl⟩
  rw [← hQ]
  have HE := Lib.hid fun T w' => catch_end hQ (.panicking [{ v := .iface 55 (.agg #[.int .i64 n]), recovered := true }]) T w'
  clear hQ
  apply wpS_seq
  apply wpS_region
  simp [wpOpsS, go_sem, recoverD, hu, Tryz.ntmps18, Exit.thenS]
  refine wpS_of_wp ?_
  generalize ({ c₀ with mode := FrameMode.panicking [{ v := Value.iface 55 (.agg #[.int .i64 n]), recovered := true }] } :: cs) = C1 at HE ⊢
  change Code.wp _ _ _ { tmps := #[.pointer (some ⟨ob, 0, none⟩), Value.iface 55 (.agg #[.int .i64 n]), undef, undef, Value.iface 55 (.agg #[.int .i64 n]), undef, undef, undef, undef, undef, undef, undef, undef, undef, undef, undef, undef, undef, undef], defers := [] } w
  go_wp2_with fail
  have X := Lib.hid (ext_alloc (.cells #[.int .i64 n] 55) (ext_refl w))
  refine (IT _ (G.out.ext X.out)).mono ?_
  rintro _ w1 ⟨rfl, hx⟩
  have X1 := Lib.hid (ext_trans X.out hx)
  have hb := ((ext_iff.1 X1.out).block _ (lt_of_heap O.out)).trans O.out
  have f0 : w1.frozen? ⟨ob, 0, none⟩ = false := Lib.frozen_of_heap hb 0
  have c0 : w1.cell? ⟨ob, 0, none⟩ = some x := by rw [cell_in, hb]; rfl
  have lt := lt_of_heap hb
  clear hx IT X hb
  go_wp2_with fail
  exact HE.out _ _ ⟨trivial, trivial, w1, X1.out, rfl⟩
set_option maxHeartbeats 1000000 in
theorem catch_idle (p : Addr) (w : World) :
    CallsD Tryz.prog 18 #[.pointer (some p)] .returning w fun e u' w' => e = .returned (.tuple #[]) ∧ u' = .returning ∧ w' = w := by
  refine callsD_of_wpS Tryz.func18 rfl fun c₀ cs hu => ?_
  obtain ⟨Q, hQ⟩ : ∃ Q, Q = bodyPostS Tryz.prog Tryz.f18 c₀ cs (fun e u' w' => e = .returned (.tuple #[]) ∧ u' = .returning ∧ w' = w) := ⟨_, rfl⟩
  rw [← hQ]
  have HE := Lib.hid fun T => catch_end hQ .returning T w ⟨rfl, rfl, rfl⟩
  have hc : { c₀ with mode := .returning } = c₀ := by rw [← hu]
  rw [hc] at HE
  clear hQ hc
  apply wpS_seq
  apply wpS_region
  simp [wpOpsS, go_sem, recoverD, hu, Tryz.ntmps18, Exit.thenS]
  refine wpS_of_wp ?_
  change Code.wp _ _ _ { tmps := #[.pointer (some p), .nilIface, undef, undef, .nilIface, undef, undef, undef, undef, undef, undef, undef, undef, undef, undef, undef, undef, undef, undef], defers := [] } w
  go_wp2_with fail
  exact HE.out _
end Go.Proofs.YtnkmckdefiblhaaGreatDoor
namespace Go.Proofs.YtnkmckdefiblhaaGreatDoor
open Go.RowKit Go.Shelf

def tellF (has : ByteArray → Bool) (L : List Rec) (e : Ev) : Int := if rightE okV e = false then 1 else if L.length = 100 then 12 else tellX has e
theorem tellF_less {has : ByteArray → Bool} {L : List Rec} {e : Ev} (h : L.length ≠ 100) : tellF has L e = tellX has e := by
  unfold tellF
  cases hr : rightE okV e with
  | false => unfold tellX; rw [hr]; rfl
  | true => rw [if_neg (by simp), if_neg h]
theorem tellF_zero {has : ByteArray → Bool} {L : List Rec} {e : Ev} (h : tellF has L e = 0) : L.length ≠ 100 ∧ tellX has e = 0 := by
  by_cases hl : L.length = 100
  · unfold tellF at h
    rw [if_pos hl] at h
    split at h <;> cases h
  · exact ⟨hl, by rw [← tellF_less hl]; exact h⟩
theorem tellF_right {has : ByteArray → Bool} {L : List Rec} {e : Ev} (h : tellF has L e = 0) : rightE okV e = true ∧ (e.kind = 3 → has e.subject = true) := tellX_right (tellF_zero h).2
def doF (S : SrcM) (e : Ev) : Int :=
  if e.kind = 1 ∧ (findT (ek e) S.T).isSome = true ∧ txt ((findT (ek e) S.T).getD zeroC).subject ≠ txt e.subject then 13
  else if e.kind = 2 ∧ ¬ ((findT (ek e) S.T).isSome = true ∧ txt ((findT (ek e) S.T).getD zeroC).subject = txt e.subject) then 7
  else tellF S.has S.L e
theorem doF_zero {S : SrcM} {e : Ev} (h : doF S e = 0) : S.L.length ≠ 100 ∧ doX S e = 0 := by
  have h' := h
  unfold doF at h
  split at h
  · cases h
  · rename_i h1
    split at h
    · cases h
    · rename_i h2
      obtain ⟨h3, h4⟩ := tellF_zero h
      exact ⟨h3, by unfold doX; rw [if_neg h1, if_neg h2]; exact h4⟩
def doSF (sec : ByteArray) (S : SrcM) (e : Ev) : SrcM :=
  if doF S e = 0 then ⟨toldMany S.many S.has e, toldHas S.has e, S.L ++ [toldR sec S.many S.has S.L e], stepT e S.T⟩ else S
theorem doSF_yes {sec : ByteArray} {S : SrcM} {e : Ev} (h : doF S e = 0) : doSF sec S e = ⟨toldMany S.many S.has e, toldHas S.has e, S.L ++ [toldR sec S.many S.has S.L e], stepT e S.T⟩ := if_pos h
theorem doSF_no {sec : ByteArray} {S : SrcM} {e : Ev} (h : doF S e ≠ 0) : doSF sec S e = S := if_neg h
set_option maxRecDepth 100000 in
set_option maxHeartbeats 4000000 in
theorem tell_full (e : Ev) (w : World) (V R : Blk) (fb vb n : Nat) (sec : ByteArray) (many : ByteArray → Nat) (has : ByteArray → Bool) (L : List Rec) (hv : vaultIn w V vb n sec many has) (hf : feedIn w R fb vb L) (hG : Glob w (fun i => V i ∨ R i))
    (hr : rightE okV e = true) (hz : e.subject.size ≤ 1048576 ∧ e.table.size ≤ 1048576 ∧ e.row.size ≤ 1048576) (hvz : e.value.size ≤ 1048576) (hL : L.length = 100) :
    Calls Tryz.prog 122 #[.pointer (some ⟨fb, 0, none⟩), .agg (evV e)] w (TellNo 12 e w V R fb vb n sec many has L) := by
  have PR := fun w h => print_any e w hz hvz h
  rw [hr, if_pos rfl] at PR
  rw [if_pos rfl] at PR
  have HF := Lib.hid hf
  have HV := Lib.hid hv
  have GG := Lib.hid hG
  have hl1 : ((L.length : Int) == 100) = true := by rw [hL]; rfl
  clear hf hv hG hr
  generalize (⟨(printL e).toArray⟩ : ByteArray) = pb at PR
  have H2 := two_new w (.cells (evV e) 155) (.cells (recV zeroR) 108)
  have X2 := Lib.hid (ext_alloc (.cells (recV zeroR) 108) (ext_alloc (.cells (evV e) 155) (ext_refl w)))
  have HZ := Lib.hid H2.2.1
  clear H2
  have HP : Hid (∀ r w', (r = .returned (.tuple #[.agg (recV zeroR), errV 12]) ∧ vaultIn w' V vb n sec many has ∧ feedIn w' R fb vb L ∧ step w w' (fun i => V i ∨ R i) (fun i => V i ∨ R i)) → TellNo 12 e w V R fb vb n sec many has L r w') := Lib.hid fun _ _ h => h
  generalize hP : TellNo 12 e w V R fb vb n sec many has L = P at HP ⊢
  clear hP
  unfold evV at PR HZ X2 ⊢
  unfold recV zeroR at HZ X2
  dsimp only at HZ X2
  obtain ⟨k, u, t, r, v⟩ := e
  dsimp only at PR hz hvz HZ X2 ⊢
  go_enter Tryz.func122, Tryz.ntmps122
  go_wp2_with fail
  generalize (w.alloc (.cells #[.int .i64 k, .string u, .string t, .string r, .string v] 155)).alloc (.cells #[.int .i64 0, .string ⟨#[]⟩, .int .i64 0, .string ⟨#[]⟩, .string ⟨#[]⟩] 108) = w1 at HZ X2 ⊢
  refine (PR _ (GG.out.ext X2.out).words).mono ?_
  rintro _ w2 ⟨rfl, hx⟩
  have X3 := Lib.hid (ext_trans X2.out hx)
  have Z5 := Lib.hid (((ext_iff.1 hx).block _ (lt_of_heap HZ.out)).trans HZ.out)
  have HRL := Lib.hid HF.out.lt
  have VL := Lib.hid HV.out.lt
  have F5 := Lib.hid (HF.out.ext X3.out)
  have V5 := Lib.hid (HV.out.ext X3.out)
  clear hx X2 HZ PR HF HV
  obtain ⟨q, cap, h1, h2, h3, h4⟩ := F5.out.at_
  obtain ⟨c0, c1⟩ := two_at h1
  have lf := lt_of_heap h1
  clear h1 h2 h3 h4
  generalize hzbE : w.heap.size + 1 = zb at *
  obtain ⟨y0, y1, y2, y3, y4⟩ := rec_cells (r := ⟨0, ⟨#[]⟩, 0, ⟨#[]⟩, ⟨#[]⟩⟩) Z5.out
  dsimp only at y0 y1 y2 y3 y4
  have lz := lt_of_heap Z5.out
  have fz := free_of_heap Z5.out
  have SR := Lib.hid (setRec5 Z5.out (.int .i64 0) (.string ⟨#[]⟩) (.int .i64 0) (.string ⟨#[]⟩) (.string ⟨#[]⟩))
  go_wp2_with fail
  generalize (((((w2.setCell ⟨zb, 0, none⟩ (.int .i64 0)).setCell ⟨zb, 1, none⟩ (.string ⟨#[]⟩)).setCell ⟨zb, 2, none⟩ (.int .i64 0)).setCell ⟨zb, 3, none⟩ (.string ⟨#[]⟩)).setCell ⟨zb, 4, none⟩ (.string ⟨#[]⟩)) = w9 at SR ⊢
  obtain ⟨SR1, SR2⟩ := SR.out
  refine ret_cells rfl rfl SR1 Tryz.underlying108 rfl (by kernel_rfl) rfl rfl (HP.out _ _ ⟨rfl, ?_, ?_, (step.of_ext _ X3.out).put SR2 (.inr (by omega))⟩)
  · exact V5.out.same (fun i hi => SR2.block i (V5.out.lt i hi) (fun e => by injection e with e; have := VL.out i hi; omega)) SR2.size
  · exact F5.out.same (fun i hi => SR2.block i (F5.out.lt i hi) (fun e => by injection e with e; have := HRL.out i hi; omega)) SR2.size
def ToldAllF (e : Ev) (w : World) (V R : Blk) (fb vb n : Nat) (sec : ByteArray) (many : ByteArray → Nat) (has : ByteArray → Bool) (L : List Rec) (r : Ending) (w' : World) : Prop :=
  (tellF has L e = 0 ∧ TellPost e w V R fb vb n sec many has L r w') ∨ (tellF has L e ≠ 0 ∧ TellNo (tellF has L e) e w V R fb vb n sec many has L r w')
theorem ftellF_any (e : Ev) (w : World) (V R : Blk) (fb vb n : Nat) (sec : ByteArray) (many : ByteArray → Nat) (has : ByteArray → Bool) (L : List Rec) (hv : vaultIn w V vb n sec many has) (hf : feedIn w R fb vb L) (ha : apart V R) (hG : Glob w (fun i => V i ∨ R i))
    (hz : e.subject.size ≤ 1048576 ∧ e.table.size ≤ 1048576 ∧ e.row.size ≤ 1048576) (hvz : e.value.size ≤ 1048576) (hsec : sec.size ≤ 1048576) (hn : n ≤ 1000000) (hm : many e.subject < 1000000) (hL : L.length ≤ 100) :
    Calls Tryz.prog 122 #[.pointer (some ⟨fb, 0, none⟩), .agg (evV e)] w (ToldAllF e w V R fb vb n sec many has L) := by
  by_cases hl : L.length = 100
  · cases hr : rightE okV e with
    | false =>
      have hx : tellF has L e = 1 := by unfold tellF; rw [hr]; rfl
      exact (tell_bad e w V R fb vb n sec many has L hv hf hr hz).mono fun r w' h => .inr ⟨by rw [hx]; decide, by rw [hx]; exact h⟩
    | true =>
      have hx : tellF has L e = 12 := by unfold tellF; rw [hr, if_neg (by simp), if_pos hl]
      exact (tell_full e w V R fb vb n sec many has L hv hf hG hr hz hvz hl).mono fun r w' h => .inr ⟨by rw [hx]; decide, by rw [hx]; exact h⟩
  · refine (ftell_any e w V R fb vb n sec many has L hv hf ha hG hz hvz hsec hn hm (by omega)).mono fun r w' h => ?_
    unfold ToldAllF
    rw [tellF_less hl]
    rcases h with h | ⟨h1, h2⟩
    · exact .inl h
    · exact .inr ⟨by omega, h2⟩
theorem told_allF {e : Ev} {w w' : World} {V R : Blk} {fb vb n : Nat} {sec : ByteArray} {many : ByteArray → Nat} {has : ByteArray → Bool} {L : List Rec} {r : Ending} (h : ToldAllF e w V R fb vb n sec many has L r w') :
    r = .returned (.tuple #[.agg (recV (if tellF has L e = 0 then toldR sec many has L e else zeroR)), if tellF has L e = 0 then .nilIface else errV (tellF has L e)]) ∧
    toldSt V R fb vb n sec (if tellF has L e = 0 then toldMany many has e else many) (if tellF has L e = 0 then toldHas has e else has) (if tellF has L e = 0 then L ++ [toldR sec many has L e] else L) w w' := by
  rcases h with ⟨h0, h1, h2⟩ | ⟨h0, h1, h2, h3, h4⟩
  · rw [if_pos h0, if_pos h0, if_pos h0, if_pos h0, if_pos h0]; exact ⟨h1, h2⟩
  · rw [if_neg h0, if_neg h0, if_neg h0, if_neg h0, if_neg h0]
    exact ⟨h1, R, h2.mono (by omega), h3, h4, fun i h => .inl h⟩
/-- What Do does. -/
def DoPostF (e : Ev) (w : World) (V F : Blk) (sb vb n : Nat) (sec : ByteArray) (S : SrcM) (r : Ending) (w' : World) : Prop :=
  r = .returned (.tuple #[.agg (recV (if doF S e = 0 then toldR sec S.many S.has S.L e else zeroR)), if doF S e = 0 then .nilIface else errV (doF S e)]) ∧ ∃ F', srcIn w' V F' sb vb (n + 3) sec (doSF sec S e) ∧ step w w' F F'
end Go.Proofs.YtnkmckdefiblhaaGreatDoor
