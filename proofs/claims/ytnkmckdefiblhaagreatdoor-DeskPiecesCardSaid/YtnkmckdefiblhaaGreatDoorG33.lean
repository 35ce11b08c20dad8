/- desk.do: an event is told (the walk). -/
import Derived.Test.YtnkmckdefiblhaaGreatDoorProg
import Derived.Test.YtnkmckdefiblhaaGreatDoorG31
import Derived.Test.YtnkmckdefiblhaaGreatDoorG32
namespace Go.Proofs.YtnkmckdefiblhaaGreatDoor
open Go.RowKit Go.Shelf

/-- A source to which something happens, and a record that is laid beside it. -/
def doC (V F : Blk) (sb vb n : Nat) (sec : ByteArray) (S S2 : SrcM) (x0 x1 : Array Value) (W : World) (called made done : Bool) (pv : Value) (w : World) : Prop :=
  ∃ F', (if called = true then srcIn w V F' sb vb (n + 3) sec S2 else srcIn w V F sb vb n sec S ∧ F' = F) ∧ step W w F F' ∧ (done = true → made = true) ∧
    (made = true → ∃ p, pv = .pointer (some ⟨p, 0, none⟩) ∧ W.heap.size ≤ p ∧ w.heap[p]? = some (.cells (if done = true then x1 else x0) 108 (0, 0)) ∧ ¬ F' p)
section
variable {V F : Blk} {sb vb n : Nat} {sec : ByteArray} {S S2 : SrcM} {x0 x1 : Array Value} {W w w' : World} {c m d : Bool} {pv : Value}
theorem doC.start (h : srcIn W V F sb vb n sec S) : doC V F sb vb n sec S S2 x0 x1 W false false false pv { W with drawn := W.drawn + 1 } :=
  ⟨F, ⟨h.same (fun _ _ => rfl) (Nat.le_refl _), rfl⟩, .drawn _ _ _, (fun h => by cases h), (fun h => by cases h)⟩
theorem doC.before (h : doC V F sb vb n sec S S2 x0 x1 W c m d pv w) (hc : c = false) : srcIn w V F sb vb n sec S ∧ step W w F F := by
  subst hc
  obtain ⟨F', h1, h2, _, _⟩ := h
  rw [if_neg (by simp)] at h1
  obtain ⟨h1, rfl⟩ := h1
  exact ⟨h1, h2⟩
theorem doC.stepF (h : doC V F sb vb n sec S S2 x0 x1 W c m d pv w) : ∃ F', step W w F F' := by
  obtain ⟨F', _, h2, _⟩ := h
  exact ⟨F', h2⟩
theorem doC.call (h : doC V F sb vb n sec S S2 x0 x1 W c m d pv w) (hc : c = false) (g : ∃ F', srcIn w' V F' sb vb (n + 3) sec S2 ∧ step w w' F F') : doC V F sb vb n sec S S2 x0 x1 W true m d pv w' := by
  subst hc
  obtain ⟨F', h1, h2, h3, h4⟩ := h
  rw [if_neg (by simp)] at h1
  obtain ⟨h1, rfl⟩ := h1
  obtain ⟨F'', g1, g2⟩ := g
  refine ⟨F'', by rw [if_pos rfl]; exact g1, h2.trans g2, h3, fun hm => ?_⟩
  obtain ⟨p, e1, e2, e3, e4⟩ := h4 hm
  obtain ⟨k1, k2, k3⟩ := g2.keep (lt_of_heap e3) e4
  exact ⟨p, e1, e2, k1.trans e3, k3⟩
theorem doC.made (h : doC V F sb vb n sec S S2 x0 x1 W c m d pv w) (hm : m = false) : doC V F sb vb n sec S S2 x0 x1 W c true d (.pointer (some ⟨w.heap.size, 0, none⟩)) (w.alloc (.cells x0 108)) := by
  obtain ⟨F', h1, h2, h3, h4⟩ := h
  have hd : d = false := by
    cases d with
    | false => rfl
    | true => have := h3 rfl; rw [hm] at this; cases this
  subst hd
  have hx : ∃ x, w.alloc (.cells x0 108) = ext w x := ext_alloc _ (ext_refl w)
  have hlt : ∀ i, F' i → i < w.heap.size := by
    split at h1
    · exact h1.lt
    · obtain ⟨h1, rfl⟩ := h1; exact h1.lt
  refine ⟨F', ?_, h2.trans (.alloc _ _ _), (fun h => by cases h), fun _ => ⟨_, rfl, h2.size, heap_alloc_at w _, fun h => by have := hlt _ h; omega⟩⟩
  split at h1
  · rename_i hc; rw [if_pos hc]; exact h1.ext hx
  · rename_i hc; rw [if_neg hc]; exact ⟨h1.1.ext hx, h1.2⟩
theorem doC.put {p : Nat} (h : doC V F sb vb n sec S S2 x0 x1 W c m d pv w) (hm : m = true) (hp : pv = .pointer (some ⟨p, 0, none⟩)) (hb : w'.heap[p]? = some (.cells x1 108 (0, 0))) (hg : w.grownBy w' (some p)) : doC V F sb vb n sec S S2 x0 x1 W c m true pv w' := by
  obtain ⟨F', h1, h2, h3, h4⟩ := h
  obtain ⟨p', e1, e2, e3, e4⟩ := h4 hm
  have e5 := hp.symm.trans e1
  simp only [Value.pointer.injEq, Option.some.injEq, Addr.mk.injEq, and_true] at e5
  subst e5
  have hk : ∀ i, F' i → w'.heap[i]? = w.heap[i]? := fun i hi => hg.block i (by
    split at h1
    · exact h1.lt i hi
    · obtain ⟨h1, rfl⟩ := h1; exact h1.lt i hi) (fun e => by injection e with e; subst e; exact e4 hi)
  refine ⟨F', ?_, h2.put hg (.inr e2), fun _ => hm, fun _ => ⟨p, e1, e2, by rw [if_pos rfl]; exact hb, e4⟩⟩
  split at h1
  · rename_i hc; rw [if_pos hc]; exact h1.same hk hg.size
  · rename_i hc; rw [if_neg hc]; exact ⟨h1.1.same (fun i hi => hk i (h1.2 ▸ hi)) hg.size, h1.2⟩
end
theorem doC.evAt {V F : Blk} {sb vb n : Nat} {sec : ByteArray} {S S2 : SrcM} {x0 x1 : Array Value} {W w : World} {c m d : Bool} {pv : Value} {b : Nat} {o : Obj} (h : doC V F sb vb n sec S S2 x0 x1 W c m d pv w) (hb : W.heap[b]? = some o) (hn : ¬ F b) : w.heap[b]? = some o := by
  obtain ⟨F', hs⟩ := h.stepF
  exact (hs.keep (lt_of_heap hb) hn).1.trans hb
def frDkO3 (db : Nat) (name : ByteArray) (p : Option Addr) (nw : Nat) (cap : Nat) (eb : Nat) (ek : Int) (eu : ByteArray) (et : ByteArray) (er : ByteArray) (ex : ByteArray) (t : ByteArray) (g : Nat → Value) : Act := { tmps := #[.pointer (some ⟨db, 0, none⟩), .string name, .slice p nw cap, undef, undef, undef, .string ⟨#[]⟩, .pointer (some ⟨eb, 0, none⟩), g 8, g 9, .tuple #[.agg #[.int .i64 ek, .string eu, .string et, .string er, .string ex], .nilIface], .string name, .string (name ++ ⟨#[32]⟩), .slice p nw cap, .string t, .string (name ++ ⟨#[32]⟩ ++ t), .tuple #[.agg #[.int .i64 ek, .string eu, .string et, .string er, .string ex], .nilIface], .agg #[.int .i64 ek, .string eu, .string et, .string er, .string ex], .nilIface, .nilIface, .tuple #[], g 21, g 22, g 23, g 24, g 25, g 26, g 27, g 28, g 29, undef, undef, undef, undef, undef, undef, undef, undef, undef, undef, undef, undef, undef, undef, undef, undef, undef, undef, undef], defers := [] }
def dstDkO3 (i : Nat) : Nat := ([22, 23, 24, 25, 26, 27, 21, 28, 29, 9, 1010, 8] : List Nat).getD i (2000 + i)
def laysDkO3 (db : Nat) (ek : Int) (eu : ByteArray) (et : ByteArray) (er : ByteArray) (ex : ByteArray) (sb : Nat) (q0 : Int) (u0 : ByteArray) (g0 : Int) (p0 : ByteArray) (b0 : ByteArray) (xv : Value) (j : Nat) (v : Value) (_ : World) : Prop :=
  match j with
  | 0 => v = .pointer (some ⟨db, 0, none⟩)
  | 1 => v = .pointer (some ⟨db, 0, none⟩)
  | 2 => v = .pointer (some ⟨db, 0, none⟩)
  | 3 => v = .pointer (some ⟨sb, 0, none⟩)
  | 4 => v = .agg #[.int .i64 ek, .string eu, .string et, .string er, .string ex]
  | 5 => v = .tuple #[.agg #[.int .i64 q0, .string u0, .int .i64 g0, .string p0, .string b0], xv]
  | 6 => v = .tuple #[.agg #[.int .i64 q0, .string u0, .int .i64 g0, .string p0, .string b0], xv]
  | 7 => v = .agg #[.int .i64 q0, .string u0, .int .i64 g0, .string p0, .string b0]
  | 8 => v = xv
  | 9 => ∃ pp, v = .pointer (some ⟨pp, 0, none⟩)
  | 11 => v = xv
  | _ => True
def frDkO5 (db : Nat) (name : ByteArray) (p : Option Addr) (nw : Nat) (cap : Nat) (eb : Nat) (ek : Int) (eu : ByteArray) (et : ByteArray) (er : ByteArray) (ex : ByteArray) (t : ByteArray) (p9 : Nat) (g7 : Nat → Value) (g : Nat → Value) : Act := { tmps := #[.pointer (some ⟨db, 0, none⟩), .string name, .slice p nw cap, undef, undef, undef, g 6, .pointer (some ⟨eb, 0, none⟩), .nilIface, .pointer (some ⟨p9, 0, none⟩), .tuple #[.agg #[.int .i64 ek, .string eu, .string et, .string er, .string ex], .nilIface], .string name, .string (name ++ ⟨#[32]⟩), .slice p nw cap, .string t, .string (name ++ ⟨#[32]⟩ ++ t), .tuple #[.agg #[.int .i64 ek, .string eu, .string et, .string er, .string ex], .nilIface], .agg #[.int .i64 ek, .string eu, .string et, .string er, .string ex], .nilIface, .nilIface, .tuple #[], g7 21, g7 22, g7 23, g7 24, g7 25, g7 26, g7 27, g7 28, g7 29, .nilIface, .tuple #[], g 32, g 33, g 34, g 35, g 36, g 37, g 38, g 39, g 40, g 41, g 42, g 43, g 44, g 45, g 46, g 47, g 48], defers := [] }
def dstDkO5 (i : Nat) : Nat := ([32, 33, 34, 35, 36, 37, 38, 39, 40, 41, 42, 43, 44, 45, 46, 47, 48, 6] : List Nat).getD i (2000 + i)
def laysDkO5 (name : ByteArray) (q0 : Int) (g0 : Int) (b0 : ByteArray) (p9 : Nat) (t1 : ByteArray) (t2 : ByteArray) (t3 : ByteArray) (j : Nat) (v : Value) (_ : World) : Prop :=
  match j with
  | 0 => v = .string name
  | 1 => v = .string (name ++ (⟨#[32]⟩ : ByteArray))
  | 2 => v = .pointer (some ⟨p9, 0, none⟩)
  | 3 => v = .int .i64 q0
  | 4 => v = .string t1
  | 5 => v = .string (name ++ (⟨#[32]⟩ : ByteArray) ++ t1)
  | 6 => v = .string (name ++ (⟨#[32]⟩ : ByteArray) ++ t1 ++ (⟨#[32]⟩ : ByteArray))
  | 7 => v = .pointer (some ⟨p9, 2, none⟩)
  | 8 => v = .int .i64 g0
  | 9 => v = .string t2
  | 10 => v = .string (name ++ (⟨#[32]⟩ : ByteArray) ++ t1 ++ (⟨#[32]⟩ : ByteArray) ++ t2)
  | 11 => v = .string (name ++ (⟨#[32]⟩ : ByteArray) ++ t1 ++ (⟨#[32]⟩ : ByteArray) ++ t2 ++ (⟨#[32]⟩ : ByteArray))
  | 12 => v = .pointer (some ⟨p9, 4, none⟩)
  | 13 => v = .string b0
  | 14 => v = .int .i64 b0.size
  | 15 => v = .string t3
  | 16 => v = .string (name ++ (⟨#[32]⟩ : ByteArray) ++ t1 ++ (⟨#[32]⟩ : ByteArray) ++ t2 ++ (⟨#[32]⟩ : ByteArray) ++ t3)
  | 17 => v = .string (name ++ (⟨#[32]⟩ : ByteArray) ++ t1 ++ (⟨#[32]⟩ : ByteArray) ++ t2 ++ (⟨#[32]⟩ : ByteArray) ++ t3)
  | _ => True
theorem parse_yes_ev {s : ByteArray} (h : parses okV (txt s)) : parseX s = .nilIface ∧ rightE okV (parseE s) = true := by
  obtain ⟨E, h1, h2, h3, _⟩ := parse_good s h
  exact ⟨h2, by rw [h1]; exact h3⟩
theorem right_sizes {e : Ev} (h : rightE okV e = true) : (e.subject.size ≤ 1048576 ∧ e.table.size ≤ 1048576 ∧ e.row.size ≤ 1048576) ∧ e.value.size ≤ 1048576 := by
  have h1 := print_sizes h
  have h2 := (print_short h).1
  omega
def boundR (r : Rec) : Prop := (0 ≤ r.seq ∧ r.seq ≤ 1000) ∧ (0 ≤ r.gen ∧ r.gen ≤ 1000) ∧ r.body.size ≤ 86
theorem DkInv.bound {M : DkM} (h : DkInv M) {e : Ev} (hr : rightE okV e = true) : boundR (toldR M.sec M.S.many M.S.has M.S.L e) := by
  obtain ⟨h1, _, _, h4⟩ := toldR_fields M.sec M.S.many M.S.has M.S.L e
  have hL := h.len
  have hc := h.inv.cnt e.subject
  refine ⟨by omega, ?_, (toldR_is M.sec M.S.many M.S.has M.S.L hr (fun hh => h.inv.key _ hh)).body⟩
  rw [h4]
  unfold makeN
  split
  · omega
  · split <;> omega
set_option maxRecDepth 100000 in
set_option maxHeartbeats 16000000 in
theorem do_cmd (name : ByteArray) (p : Option Addr) (ws : List ByteArray) (cap : Nat) (w : World) (A : Blk) (db n : Nat) (M : DkM) (hnm : name.size ≤ 10) (h : cmdIn w A db n M p ws cap) :
    Calls Tryz.prog 59 #[.pointer (some ⟨db, 0, none⟩), .string name, .slice p ws.length cap] w (CmdPost (doA name M ws) w A db n) := by
  have JN := jn_any p ws cap w h.words.texts h.cap_ h.small.1 (by have := h.small.2.2; omega)
  have hsz := jnT_size h.small
  obtain ⟨own, sb, vb, mb, V, rb, q, c, H, rfl⟩ := h.dk
  have HD := Lib.hid H
  obtain ⟨c0, c1, c2, c3, c4, c5, lt⟩ := six_at H.blk
  have G := Lib.hid h.glob
  have IV := Lib.hid h.inv
  have hn := h.n_
  clear h H c1 c2 c3 c4 c5
  unfold doA
  have PS := fun w hM hW => parse_any (name ++ bl1 ++ jnT ws) w (by rw [app_size, app_size]; have : bl1.size = 1 := rfl; omega) hM hW
  unfold ParsePost at PS
  have hb1 : bl1 = (⟨#[32]⟩ : ByteArray) := rfl
  rw [hb1] at PS ⊢
  by_cases hp : parses okV (txt (name ++ (⟨#[32]⟩ : ByteArray) ++ jnT ws))
  case neg =>
    rw [if_neg hp]
    have HX := (show parseX (name ++ (⟨#[32]⟩ : ByteArray) ++ jnT ws) = errV 3 from if_neg hp)
    rw [HX] at PS
    have HP : Hid (∀ w', (∃ x, w' = ext w x) → CmdPost (.er 3, M) w (whole own) db n (.panicked (thrown 3)) w') := Lib.hid fun w' hx => .same ⟨own, sb, vb, mb, V, rb, q, c, HD.out, rfl⟩ hx rfl rfl
    generalize CmdPost (.er 3, M) w (whole own) db n = P at HP ⊢
    clear hp HX hb1
    generalize jnT ws = t at *
    generalize parseE (name ++ (⟨#[32]⟩ : ByteArray) ++ t) = E at PS
    obtain ⟨ek, eu, et, er, ev⟩ := E
    unfold errV evV at PS
    have MB := fun w hE => must_bad 3 w hE
    unfold errV at MB
    dsimp only at PS
    go_enter Tryz.func59, Tryz.ntmps59
    go_wp2_with fail
    refine JN.mono ?_
    rintro _ w1 ⟨rfl, hx⟩
    have X := Lib.hid hx
    clear hx JN
    go_wp2_with fail
    refine (PS _ (G.out.ext X.out).glob.maxl (G.out.ext X.out).glob.words).mono ?_
    rintro _ w2 ⟨rfl, hx⟩
    have X2 := Lib.hid (ext_alloc (.cells #[.int .i64 ek, .string eu, .string et, .string er, .string ev] 155) (ext_trans X.out hx))
    clear hx PS X
    go_wp2_with fail
    generalize w2.alloc (.cells #[.int .i64 ek, .string eu, .string et, .string er, .string ev] 155) = w3 at X2 ⊢
    refine (MB _ (G.out.ext X2.out).glob.err).mono ?_
    rintro _ w4 ⟨rfl, hx⟩
    have X4 := Lib.hid (ext_trans X2.out hx)
    clear hx MB
    go_wp2_with fail
    exact ⟨rfl, HP.out _ X4.out⟩
  case pos =>
    rw [if_pos hp]
    obtain ⟨HX, HR⟩ := parse_yes_ev hp
    rw [HX] at PS
    generalize jnT ws = t at *
    clear hp HX hb1
    generalize parseE (name ++ (⟨#[32]⟩ : ByteArray) ++ t) = E at *
    have hrs := right_sizes HR
    have D2 := fun W hs hg => sdoF_any E W V (own .f) sb vb n M.sec M.S hs hg hrs.1 hrs.2 (by have := IV.out.sec; omega) (by omega) (by have := IV.out.inv.cnt E.subject; have := IV.out.len; omega) IV.out.len
    unfold DoPostF at D2
    have HPn : Hid (doF M.S E ≠ 0 → ∀ w' own', dkAt w' own' db (n + 3) M sb vb mb V rb q c → step w w' (whole own) (whole own') → CmdPost (doE name M E) w (whole own) db n (.panicked (thrown (doF M.S E))) w') :=
      Lib.hid fun hx w' own' h1 h2 => by unfold doE; rw [if_neg hx]; exact .of h1 (by omega) h2 rfl
    have HPy : Hid (doF M.S E = 0 → ∀ w' own', dkAt w' own' db (n + 3) (didM M E) sb vb mb V rb q c → step w w' (whole own) (whole own') → CmdPost (doE name M E) w (whole own) db n (.returned (.string (doT name (toldR M.sec M.S.many M.S.has M.S.L E)))) w') :=
      Lib.hid fun hx w' own' h1 h2 => by unfold doE; rw [if_pos hx]; exact .of h1 (by omega) h2 rfl
    have HB : Hid (doF M.S E = 0 → boundR (toldR M.sec M.S.many M.S.has M.S.L E)) := Lib.hid fun hx => IV.out.bound HR
    generalize CmdPost (doE name M E) w (whole own) db n = P at HPn HPy ⊢
    generalize hrr : (if doF M.S E = 0 then toldR M.sec M.S.many M.S.has M.S.L E else zeroR) = rr at D2
    have HRR := Lib.hid hrr
    clear hrr
    generalize hxv : (if doF M.S E = 0 then Value.nilIface else errV (doF M.S E)) = xv at D2
    have HXV := Lib.hid hxv
    clear hxv
    generalize hs2 : doSF M.sec M.S E = S2 at D2
    have HS2 := Lib.hid hs2
    clear hs2
    replace D2 := Lib.hid D2
    clear HR hrs
    obtain ⟨ek, eu, et, er, ex⟩ := E
    obtain ⟨q0, u0, g0, p0, b0⟩ := rr
    unfold evV recV at D2
    unfold evV at PS
    dsimp only at D2 PS
    go_enter Tryz.func59, Tryz.ntmps59
    go_wp2_with fail
    refine JN.mono ?_
    rintro _ w1 ⟨rfl, hx⟩
    have X := Lib.hid hx
    clear hx JN
    go_wp2_with fail
    refine (PS _ (G.out.ext X.out).glob.maxl (G.out.ext X.out).glob.words).mono ?_
    rintro _ w2 ⟨rfl, hx⟩
    have X1 := Lib.hid (ext_trans X.out hx)
    have X2 := Lib.hid (ext_alloc (.cells #[.int .i64 ek, .string eu, .string et, .string er, .string ex] 155) (ext_trans X.out hx))
    have EB := Lib.hid (heap_alloc_at w2 (.cells #[.int .i64 ek, .string eu, .string et, .string er, .string ex] 155))
    clear hx PS X
    go_wp2_with fail
    have EF : ¬ own .f w2.heap.size := fun h => by
      have := HD.out.prt.lt _ _ h
      have := (ext_iff.1 X1.out).size
      omega
    replace EF := Lib.hid EF
    generalize w2.heap.size = eb at *
    generalize w2.alloc (.cells #[.int .i64 ek, .string eu, .string et, .string er, .string ex] 155) = w3 at X2 EB ⊢
    refine (must_ok w3).mono ?_
    rintro _ _ ⟨rfl, rfl⟩
    go_wp2_with fail
    have DF : ¬ own .f db := fun h => HD.out.prt.ap .f .d (by nofun) db h HD.out.odb
    replace DF := Lib.hid DF
    have H3 := Lib.hid (HD.out.ext X2.out)
    clear c0 lt
    refine wp_region_slots (frDkO3 db name p ws.length cap eb ek eu et er ex t) dstDkO3 (fun k => if k = 8 then .nilIface else undef) (laysDkO3 db ek eu et er ex sb q0 u0 g0 p0 b0 xv) (fun L g w => doC V (own .f) sb vb n M.sec M.S S2 #[.int .i64 0, .string ⟨#[]⟩, .int .i64 0, .string ⟨#[]⟩, .string ⟨#[]⟩] #[.int .i64 q0, .string u0, .int .i64 g0, .string p0, .string b0] w3 (L 5) (L 9) (L 10) (g 9) w) (fun w w' => True) (by kernel_rfl) (by kernel_rfl) rfl ?_ (by kernel_rfl) (doC.start H3.out.src) ?_ ?_
    · exact fun _ _ _ _ _ h => h
    · refine ⟨?_, ?_, ?_, ?_, ?_, ?_, ?_, ?_, ?_, ?_, ?_, ?_, trivial⟩
      all_goals (intro L gs w1 hLi hdeps hR hC; refine ends_of fun Q hQ => ?_)
      · have HQ := fun (a' : Act) (va : Value) (w' : World) (h1 : a' = frDkO3 db name p ws.length cap eb ek eu et er ex t (upd1 gs 22 va)) h2 (h3 : laysDkO3 db ek eu et er ex sb q0 u0 g0 p0 b0 xv 0 va w') h4 => hQ.out a' w' ⟨va, h1, h2, h3, h4⟩
        unfold frDkO3
        go_wp2_with fail
        exact HQ _ (.pointer (some ⟨db, 0, none⟩)) _ (by simp only [frDkO3, upd1, Nat.reduceEqDiff, reduceIte]) trivial rfl hC
      · have HQ := fun (a' : Act) (va : Value) (w' : World) (h1 : a' = frDkO3 db name p ws.length cap eb ek eu et er ex t (upd1 gs 23 va)) h2 (h3 : laysDkO3 db ek eu et er ex sb q0 u0 g0 p0 b0 xv 1 va w') h4 => hQ.out a' w' ⟨va, h1, h2, h3, h4⟩
        have r0 : gs 22 = .pointer (some ⟨db, 0, none⟩) := hR 0 (hdeps ⟨0, .data⟩ (by simp) rfl)
        unfold frDkO3
        go_wp2_with fail
        exact HQ _ (.pointer (some ⟨db, 0, none⟩)) _ (by simp only [frDkO3, upd1, r0, Nat.reduceEqDiff, reduceIte]) trivial rfl hC
      · have HQ := fun (a' : Act) (va : Value) (w' : World) (h1 : a' = frDkO3 db name p ws.length cap eb ek eu et er ex t (upd1 gs 24 va)) h2 (h3 : laysDkO3 db ek eu et er ex sb q0 u0 g0 p0 b0 xv 2 va w') h4 => hQ.out a' w' ⟨va, h1, h2, h3, h4⟩
        have r1 : gs 23 = .pointer (some ⟨db, 0, none⟩) := hR 1 (hdeps ⟨1, .data⟩ (by simp) rfl)
        unfold frDkO3
        go_wp2_with fail
        exact HQ _ (.pointer (some ⟨db, 0, none⟩)) _ (by simp only [frDkO3, upd1, r1, Nat.reduceEqDiff, reduceIte]) trivial rfl hC
      · have HQ := fun (a' : Act) (va : Value) (w' : World) (h1 : a' = frDkO3 db name p ws.length cap eb ek eu et er ex t (upd1 gs 25 va)) h2 (h3 : laysDkO3 db ek eu et er ex sb q0 u0 g0 p0 b0 xv 3 va w') h4 => hQ.out a' w' ⟨va, h1, h2, h3, h4⟩
        have r2 : gs 24 = .pointer (some ⟨db, 0, none⟩) := hR 2 (hdeps ⟨2, .data⟩ (by simp) rfl)
        have hb0 := hC.evAt H3.out.blk DF.out
        have c0 := (six_at hb0).1
        have lw1 := lt_of_heap hb0
        clear hb0
        unfold frDkO3
        go_wp2_with fail
        exact HQ _ (.pointer (some ⟨sb, 0, none⟩)) _ (by simp only [frDkO3, upd1, r2, Nat.reduceEqDiff, reduceIte]) trivial rfl hC
      · have HQ := fun (a' : Act) (va : Value) (w' : World) (h1 : a' = frDkO3 db name p ws.length cap eb ek eu et er ex t (upd1 gs 26 va)) h2 (h3 : laysDkO3 db ek eu et er ex sb q0 u0 g0 p0 b0 xv 4 va w') h4 => hQ.out a' w' ⟨va, h1, h2, h3, h4⟩
        have hb0 := hC.evAt EB.out EF.out
        obtain ⟨c0, c1, c2, c3, c4⟩ := ev5 (e := ⟨ek, eu, et, er, ex⟩) hb0
        dsimp only at c0 c1 c2 c3 c4
        have lw1 := lt_of_heap hb0
        clear hb0
        unfold frDkO3
        go_wp2_with fail
        exact HQ _ (.agg #[.int .i64 ek, .string eu, .string et, .string er, .string ex]) _ (by simp only [frDkO3, upd1, Nat.reduceEqDiff, reduceIte]) trivial rfl hC
      · have HQ := fun (a' : Act) (va : Value) (w' : World) (h1 : a' = frDkO3 db name p ws.length cap eb ek eu et er ex t (upd1 gs 27 va)) h2 (h3 : laysDkO3 db ek eu et er ex sb q0 u0 g0 p0 b0 xv 5 va w') h4 => hQ.out a' w' ⟨va, h1, h2, h3, h4⟩
        have r3 : gs 25 = .pointer (some ⟨sb, 0, none⟩) := hR 3 (hdeps ⟨3, .data⟩ (by simp) rfl)
        have r4 : gs 26 = .agg #[.int .i64 ek, .string eu, .string et, .string er, .string ex] := hR 4 (hdeps ⟨4, .data⟩ (by simp) rfl)
        have hbf := hC.before hLi
        have HG := Lib.hid (((G.out.ext X2.out).glob.sub (G := own .f) (fun i h => ⟨.f, h⟩)).step hbf.2)
        have HBF := Lib.hid hbf.1
        clear hbf
        unfold frDkO3
        go_wp2_with fail
        refine (D2.out w1 HBF.out HG.out).mono ?_
        rintro _ w5 ⟨rfl, hts⟩
        go_wp2_with fail
        exact HQ _ (.tuple #[.agg #[.int .i64 q0, .string u0, .int .i64 g0, .string p0, .string b0], xv]) _ (by simp only [frDkO3, upd1, r3, r4, Nat.reduceEqDiff, reduceIte]) trivial rfl (hC.call hLi hts)
      · have HQ := fun (a' : Act) (va : Value) (w' : World) (h1 : a' = frDkO3 db name p ws.length cap eb ek eu et er ex t (upd1 gs 21 va)) h2 (h3 : laysDkO3 db ek eu et er ex sb q0 u0 g0 p0 b0 xv 6 va w') h4 => hQ.out a' w' ⟨va, h1, h2, h3, h4⟩
        have r5 : gs 27 = .tuple #[.agg #[.int .i64 q0, .string u0, .int .i64 g0, .string p0, .string b0], xv] := hR 5 (hdeps ⟨5, .data⟩ (by simp) rfl)
        unfold frDkO3
        go_wp2_with fail
        exact HQ _ (.tuple #[.agg #[.int .i64 q0, .string u0, .int .i64 g0, .string p0, .string b0], xv]) _ (by simp only [frDkO3, upd1, r5, Nat.reduceEqDiff, reduceIte]) trivial rfl hC
      · have HQ := fun (a' : Act) (va : Value) (w' : World) (h1 : a' = frDkO3 db name p ws.length cap eb ek eu et er ex t (upd1 gs 28 va)) h2 (h3 : laysDkO3 db ek eu et er ex sb q0 u0 g0 p0 b0 xv 7 va w') h4 => hQ.out a' w' ⟨va, h1, h2, h3, h4⟩
        have r6 : gs 21 = .tuple #[.agg #[.int .i64 q0, .string u0, .int .i64 g0, .string p0, .string b0], xv] := hR 6 (hdeps ⟨6, .data⟩ (by simp) rfl)
        unfold frDkO3
        go_wp2_with fail
        exact HQ _ (.agg #[.int .i64 q0, .string u0, .int .i64 g0, .string p0, .string b0]) _ (by simp only [frDkO3, upd1, r6, Nat.reduceEqDiff, reduceIte]) trivial rfl hC
      · have HQ := fun (a' : Act) (va : Value) (w' : World) (h1 : a' = frDkO3 db name p ws.length cap eb ek eu et er ex t (upd1 gs 29 va)) h2 (h3 : laysDkO3 db ek eu et er ex sb q0 u0 g0 p0 b0 xv 8 va w') h4 => hQ.out a' w' ⟨va, h1, h2, h3, h4⟩
        have r6 : gs 21 = .tuple #[.agg #[.int .i64 q0, .string u0, .int .i64 g0, .string p0, .string b0], xv] := hR 6 (hdeps ⟨6, .data⟩ (by simp) rfl)
        unfold frDkO3
        go_wp2_with fail
        exact HQ _ (xv) _ (by simp only [frDkO3, upd1, r6, Nat.reduceEqDiff, reduceIte]) trivial rfl hC
      · have HQ := fun (a' : Act) (va : Value) (w' : World) (h1 : a' = frDkO3 db name p ws.length cap eb ek eu et er ex t (upd1 gs 9 va)) h2 (h3 : laysDkO3 db ek eu et er ex sb q0 u0 g0 p0 b0 xv 9 va w') h4 => hQ.out a' w' ⟨va, h1, h2, h3, h4⟩
        unfold frDkO3
        go_wp2_with fail
        exact HQ _ (.pointer (some ⟨w1.heap.size, 0, none⟩)) _ (by simp only [frDkO3, upd1, Nat.reduceEqDiff, reduceIte]) trivial ⟨_, rfl⟩ (hC.made hLi)
      · have HQ := fun (a' : Act) (va : Value) (w' : World) (h1 : a' = frDkO3 db name p ws.length cap eb ek eu et er ex t (upd1 gs 1010 va)) h2 (h3 : laysDkO3 db ek eu et er ex sb q0 u0 g0 p0 b0 xv 10 va w') h4 => hQ.out a' w' ⟨va, h1, h2, h3, h4⟩
        have r7 : gs 28 = .agg #[.int .i64 q0, .string u0, .int .i64 g0, .string p0, .string b0] := hR 7 (hdeps ⟨7, .data⟩ (by simp) rfl)
        have r9 := hR 9 (hdeps ⟨9, .data⟩ (by simp) rfl)
        have HC := Lib.hid hC
        obtain ⟨p9, hp⟩ := r9
        change gs 9 = _ at hp
        have l9 : L 9 = true := hdeps ⟨9, .data⟩ (by simp) rfl
        obtain ⟨_, _, _, _, h4⟩ := hC
        obtain ⟨p', hp', hpl, hpb, _⟩ := h4 l9
        rw [hp] at hp'
        injection hp' with hp'
        injection hp' with hp'
        injection hp' with hp'
        subst hp'
        rw [show L 10 = false from hLi] at hpb
        have hpb : w1.heap[p9]? = some (.cells #[.int .i64 0, .string ⟨#[]⟩, .int .i64 0, .string ⟨#[]⟩, .string ⟨#[]⟩] 108 (0, 0)) := hpb
        have lw1 := lt_of_heap hpb
        have ff := free_of_heap hpb
        have HH := Lib.hid (setRec5 hpb (.int .i64 q0) (.string u0) (.int .i64 g0) (.string p0) (.string b0))
        obtain ⟨z0, z1, z2, z3, z4⟩ := rec_cells (r := ⟨0, ⟨#[]⟩, 0, ⟨#[]⟩, ⟨#[]⟩⟩) hpb
        dsimp only at z0 z1 z2 z3 z4
        clear hpb h4
        unfold frDkO3
        go_wp2_with fail
        exact HQ _ undef _ (by simp only [frDkO3, upd1, r7, hp, Nat.reduceEqDiff, reduceIte]) trivial trivial (HC.out.put l9 hp HH.out.1 HH.out.2)
      · have HQ := fun (a' : Act) (va : Value) (w' : World) (h1 : a' = frDkO3 db name p ws.length cap eb ek eu et er ex t (upd1 gs 8 va)) h2 (h3 : laysDkO3 db ek eu et er ex sb q0 u0 g0 p0 b0 xv 11 va w') h4 => hQ.out a' w' ⟨va, h1, h2, h3, h4⟩
        have r8 : gs 29 = xv := hR 8 (hdeps ⟨8, .data⟩ (by simp) rfl)
        unfold frDkO3
        go_wp2_with fail
        exact HQ _ (xv) _ (by simp only [frDkO3, upd1, r8, Nat.reduceEqDiff, reduceIte]) trivial rfl hC
    intro L7 g7 w8 hall hR hC
    obtain ⟨F', h1, h2, h3, h4⟩ := hC
    rw [hall 5 (by decide), if_pos rfl] at h1
    obtain ⟨p9, hp9, hpl, hpb, hnF⟩ := h4 (hall 9 (by decide))
    rw [hall 10 (by decide), if_pos rfl] at hpb
    have s8 : g7 8 = xv := hR 11 (by decide)
    have H8 := Lib.hid (H3.out.turnF (ok' := M.ok) (by omega : n ≤ n + 3) h1 h2)
    have H8' := Lib.hid (H3.out.turnF (ok' := M.ok ++ [⟨ek, eu, et, er, ex⟩]) (by omega : n ≤ n + 3) h1 h2)
    have S8 := Lib.hid ((step.of_ext (whole own) X2.out).trans h2.whole)
    have HP9 := Lib.hid hpb
    have G8 := Lib.hid (G.out.step S8.out)
    clear h1 h2 h3 h4 hpl hpb hnF hall hR H3 D2 EB EF DF X1 X2
    unfold frDkO3
    rw [hp9, s8]
    clear hp9 s8
    by_cases hx0 : doF M.S ⟨ek, eu, et, er, ex⟩ = 0
    case neg =>
      have H0 := Lib.hid hx0
      obtain rfl : errV (doF M.S ⟨ek, eu, et, er, ex⟩) = xv := by rw [← HXV.out, if_neg hx0]
      have hS : S2 = M.S := by rw [← HS2.out, doSF_no hx0]
      have HQ := Lib.hid (HPn.out hx0)
      generalize doF M.S ⟨ek, eu, et, er, ex⟩ = nn at *
      have MB := fun w hE => must_bad nn w hE
      unfold errV at MB ⊢
      clear hx0
      go_wp2_with fail
      refine (MB _ G8.out.glob.err).mono ?_
      rintro _ w9 ⟨rfl, hx⟩
      have X9 := Lib.hid hx
      clear hx MB
      go_wp2_with fail
      subst hS
      exact ⟨rfl, HQ.out _ _ (H8.out.ext X9.out) (S8.out.trans (.of_ext _ X9.out))⟩
    case pos =>
      obtain rfl : Value.nilIface = xv := by rw [← HXV.out, if_pos hx0]
      have hrr := HRR.out
      rw [if_pos hx0] at hrr
      have hB := HB.out hx0
      have HQ := HPy.out hx0
      rw [hrr] at hB HQ
      have hS : S2 = doSF M.sec M.S ⟨ek, eu, et, er, ex⟩ := HS2.out.symm
      subst hS
      unfold doT bl1 at HQ
      unfold boundR at hB
      dsimp only at hB HQ
      replace HQ := Lib.hid HQ
      have I1 := fun w hG => itoa_any q0 w (F := whole (updL own .f F')) hG (by omega) (by omega)
      have I2 := fun w hG => itoa_any g0 w (F := whole (updL own .f F')) hG (by omega) (by omega)
      have I3 := fun w hG => itoa_any (b0.size : Nat) w (F := whole (updL own .f F')) hG (by omega) (by omega)
      have l1 := itoa_size q0 (by omega) (by omega)
      have l2 := itoa_size g0 (by omega) (by omega)
      have l3 := itoa_size (b0.size : Nat) (by omega) (by omega)
      generalize itoaT q0 = t1 at *
      generalize itoaT g0 = t2 at *
      generalize itoaT (b0.size : Nat) = t3 at *
      clear hx0 hrr HPn HPy HRR HXV HS2 HB H8
      go_wp2_with fail
      refine (must_ok w8).mono ?_
      rintro _ _ ⟨rfl, rfl⟩
      go_wp2_with fail
      refine wp_region_slots (frDkO5 db name p ws.length cap eb ek eu et er ex t p9 g7) dstDkO5 (fun k => if k = 6 then .string ⟨#[]⟩ else undef) (laysDkO5 name q0 g0 b0 p9 t1 t2 t3) (fun L g w => ∃ x, w = ext w8 x) (fun w w' => True) (by kernel_rfl) (by kernel_rfl) rfl ?_ (by kernel_rfl) (ext_drew (ext_refl _)) ?_ ?_
      · exact fun _ _ _ _ _ h => h
      · refine ⟨?_, ?_, ?_, ?_, ?_, ?_, ?_, ?_, ?_, ?_, ?_, ?_, ?_, ?_, ?_, ?_, ?_, ?_, trivial⟩
        all_goals (intro L gs w1 hLi hdeps hR hC; refine ends_of fun Q hQ => ?_)
        · have HQ := fun (a' : Act) (va : Value) (w' : World) (h1 : a' = frDkO5 db name p ws.length cap eb ek eu et er ex t p9 g7 (upd1 gs 32 va)) h2 (h3 : laysDkO5 name q0 g0 b0 p9 t1 t2 t3 0 va w') h4 => hQ.out a' w' ⟨va, h1, h2, h3, h4⟩
          unfold frDkO5
          go_wp2_with fail
          exact HQ _ (.string name) _ (by simp only [frDkO5, upd1, Nat.reduceEqDiff, reduceIte]) trivial rfl hC
        · have HQ := fun (a' : Act) (va : Value) (w' : World) (h1 : a' = frDkO5 db name p ws.length cap eb ek eu et er ex t p9 g7 (upd1 gs 33 va)) h2 (h3 : laysDkO5 name q0 g0 b0 p9 t1 t2 t3 1 va w') h4 => hQ.out a' w' ⟨va, h1, h2, h3, h4⟩
          have r0 : gs 32 = .string name := hR 0 (hdeps ⟨0, .data⟩ (by simp) rfl)
          unfold frDkO5
          go_wp2_with fail
          exact HQ _ (.string (name ++ (⟨#[32]⟩ : ByteArray))) _ (by simp only [frDkO5, upd1, r0, Nat.reduceEqDiff, reduceIte]) trivial rfl hC
        · have HQ := fun (a' : Act) (va : Value) (w' : World) (h1 : a' = frDkO5 db name p ws.length cap eb ek eu et er ex t p9 g7 (upd1 gs 34 va)) h2 (h3 : laysDkO5 name q0 g0 b0 p9 t1 t2 t3 2 va w') h4 => hQ.out a' w' ⟨va, h1, h2, h3, h4⟩
          unfold frDkO5
          go_wp2_with fail
          exact HQ _ (.pointer (some ⟨p9, 0, none⟩)) _ (by simp only [frDkO5, upd1, Nat.reduceEqDiff, reduceIte]) trivial rfl hC
        · have HQ := fun (a' : Act) (va : Value) (w' : World) (h1 : a' = frDkO5 db name p ws.length cap eb ek eu et er ex t p9 g7 (upd1 gs 35 va)) h2 (h3 : laysDkO5 name q0 g0 b0 p9 t1 t2 t3 3 va w') h4 => hQ.out a' w' ⟨va, h1, h2, h3, h4⟩
          have r2 : gs 34 = .pointer (some ⟨p9, 0, none⟩) := hR 2 (hdeps ⟨2, .data⟩ (by simp) rfl)
          have hb := ((ext_iff.1 hC).block _ (lt_of_heap HP9.out)).trans HP9.out
          obtain ⟨z0, z1, z2, z3, z4⟩ := rec_cells (r := ⟨q0, u0, g0, p0, b0⟩) hb
          dsimp only at z0 z1 z2 z3 z4
          have lw1 := lt_of_heap hb
          clear hb
          unfold frDkO5
          go_wp2_with fail
          exact HQ _ (.int .i64 q0) _ (by simp only [frDkO5, upd1, r2, Nat.reduceEqDiff, reduceIte]) trivial rfl hC
        · have HQ := fun (a' : Act) (va : Value) (w' : World) (h1 : a' = frDkO5 db name p ws.length cap eb ek eu et er ex t p9 g7 (upd1 gs 36 va)) h2 (h3 : laysDkO5 name q0 g0 b0 p9 t1 t2 t3 4 va w') h4 => hQ.out a' w' ⟨va, h1, h2, h3, h4⟩
          have r3 : gs 35 = .int .i64 q0 := hR 3 (hdeps ⟨3, .data⟩ (by simp) rfl)
          unfold frDkO5
          go_wp2_with fail
          refine (I1 w1 (G8.out.ext hC)).mono ?_
          rintro _ w5 ⟨rfl, hx⟩
          go_wp2_with fail
          exact HQ _ (.string t1) _ (by simp only [frDkO5, upd1, r3, Nat.reduceEqDiff, reduceIte]) trivial rfl (ext_trans hC hx)
        · have HQ := fun (a' : Act) (va : Value) (w' : World) (h1 : a' = frDkO5 db name p ws.length cap eb ek eu et er ex t p9 g7 (upd1 gs 37 va)) h2 (h3 : laysDkO5 name q0 g0 b0 p9 t1 t2 t3 5 va w') h4 => hQ.out a' w' ⟨va, h1, h2, h3, h4⟩
          have r1 : gs 33 = .string (name ++ (⟨#[32]⟩ : ByteArray)) := hR 1 (hdeps ⟨1, .data⟩ (by simp) rfl)
          have r4 : gs 36 = .string t1 := hR 4 (hdeps ⟨4, .data⟩ (by simp) rfl)
          unfold frDkO5
          go_wp2_with fail
          exact HQ _ (.string (name ++ (⟨#[32]⟩ : ByteArray) ++ t1)) _ (by simp only [frDkO5, upd1, r1, r4, Nat.reduceEqDiff, reduceIte]) trivial rfl hC
        · have HQ := fun (a' : Act) (va : Value) (w' : World) (h1 : a' = frDkO5 db name p ws.length cap eb ek eu et er ex t p9 g7 (upd1 gs 38 va)) h2 (h3 : laysDkO5 name q0 g0 b0 p9 t1 t2 t3 6 va w') h4 => hQ.out a' w' ⟨va, h1, h2, h3, h4⟩
          have r5 : gs 37 = .string (name ++ (⟨#[32]⟩ : ByteArray) ++ t1) := hR 5 (hdeps ⟨5, .data⟩ (by simp) rfl)
          unfold frDkO5
          go_wp2_with fail
          exact HQ _ (.string (name ++ (⟨#[32]⟩ : ByteArray) ++ t1 ++ (⟨#[32]⟩ : ByteArray))) _ (by simp only [frDkO5, upd1, r5, Nat.reduceEqDiff, reduceIte]) trivial rfl hC
        · have HQ := fun (a' : Act) (va : Value) (w' : World) (h1 : a' = frDkO5 db name p ws.length cap eb ek eu et er ex t p9 g7 (upd1 gs 39 va)) h2 (h3 : laysDkO5 name q0 g0 b0 p9 t1 t2 t3 7 va w') h4 => hQ.out a' w' ⟨va, h1, h2, h3, h4⟩
          unfold frDkO5
          go_wp2_with fail
          exact HQ _ (.pointer (some ⟨p9, 2, none⟩)) _ (by simp only [frDkO5, upd1, Nat.reduceEqDiff, reduceIte]) trivial rfl hC
        · have HQ := fun (a' : Act) (va : Value) (w' : World) (h1 : a' = frDkO5 db name p ws.length cap eb ek eu et er ex t p9 g7 (upd1 gs 40 va)) h2 (h3 : laysDkO5 name q0 g0 b0 p9 t1 t2 t3 8 va w') h4 => hQ.out a' w' ⟨va, h1, h2, h3, h4⟩
          have r7 : gs 39 = .pointer (some ⟨p9, 2, none⟩) := hR 7 (hdeps ⟨7, .data⟩ (by simp) rfl)
          have hb := ((ext_iff.1 hC).block _ (lt_of_heap HP9.out)).trans HP9.out
          obtain ⟨z0, z1, z2, z3, z4⟩ := rec_cells (r := ⟨q0, u0, g0, p0, b0⟩) hb
          dsimp only at z0 z1 z2 z3 z4
          have lw1 := lt_of_heap hb
          clear hb
          unfold frDkO5
          go_wp2_with fail
          exact HQ _ (.int .i64 g0) _ (by simp only [frDkO5, upd1, r7, Nat.reduceEqDiff, reduceIte]) trivial rfl hC
        · have HQ := fun (a' : Act) (va : Value) (w' : World) (h1 : a' = frDkO5 db name p ws.length cap eb ek eu et er ex t p9 g7 (upd1 gs 41 va)) h2 (h3 : laysDkO5 name q0 g0 b0 p9 t1 t2 t3 9 va w') h4 => hQ.out a' w' ⟨va, h1, h2, h3, h4⟩
          have r8 : gs 40 = .int .i64 g0 := hR 8 (hdeps ⟨8, .data⟩ (by simp) rfl)
          unfold frDkO5
          go_wp2_with fail
          refine (I2 w1 (G8.out.ext hC)).mono ?_
          rintro _ w5 ⟨rfl, hx⟩
          go_wp2_with fail
          exact HQ _ (.string t2) _ (by simp only [frDkO5, upd1, r8, Nat.reduceEqDiff, reduceIte]) trivial rfl (ext_trans hC hx)
        · have HQ := fun (a' : Act) (va : Value) (w' : World) (h1 : a' = frDkO5 db name p ws.length cap eb ek eu et er ex t p9 g7 (upd1 gs 42 va)) h2 (h3 : laysDkO5 name q0 g0 b0 p9 t1 t2 t3 10 va w') h4 => hQ.out a' w' ⟨va, h1, h2, h3, h4⟩
          have r6 : gs 38 = .string (name ++ (⟨#[32]⟩ : ByteArray) ++ t1 ++ (⟨#[32]⟩ : ByteArray)) := hR 6 (hdeps ⟨6, .data⟩ (by simp) rfl)
          have r9 : gs 41 = .string t2 := hR 9 (hdeps ⟨9, .data⟩ (by simp) rfl)
          unfold frDkO5
          go_wp2_with fail
          exact HQ _ (.string (name ++ (⟨#[32]⟩ : ByteArray) ++ t1 ++ (⟨#[32]⟩ : ByteArray) ++ t2)) _ (by simp only [frDkO5, upd1, r6, r9, Nat.reduceEqDiff, reduceIte]) trivial rfl hC
        · have HQ := fun (a' : Act) (va : Value) (w' : World) (h1 : a' = frDkO5 db name p ws.length cap eb ek eu et er ex t p9 g7 (upd1 gs 43 va)) h2 (h3 : laysDkO5 name q0 g0 b0 p9 t1 t2 t3 11 va w') h4 => hQ.out a' w' ⟨va, h1, h2, h3, h4⟩
          have r10 : gs 42 = .string (name ++ (⟨#[32]⟩ : ByteArray) ++ t1 ++ (⟨#[32]⟩ : ByteArray) ++ t2) := hR 10 (hdeps ⟨10, .data⟩ (by simp) rfl)
          unfold frDkO5
          go_wp2_with fail
          exact HQ _ (.string (name ++ (⟨#[32]⟩ : ByteArray) ++ t1 ++ (⟨#[32]⟩ : ByteArray) ++ t2 ++ (⟨#[32]⟩ : ByteArray))) _ (by simp only [frDkO5, upd1, r10, Nat.reduceEqDiff, reduceIte]) trivial rfl hC
        · have HQ := fun (a' : Act) (va : Value) (w' : World) (h1 : a' = frDkO5 db name p ws.length cap eb ek eu et er ex t p9 g7 (upd1 gs 44 va)) h2 (h3 : laysDkO5 name q0 g0 b0 p9 t1 t2 t3 12 va w') h4 => hQ.out a' w' ⟨va, h1, h2, h3, h4⟩
          unfold frDkO5
          go_wp2_with fail
          exact HQ _ (.pointer (some ⟨p9, 4, none⟩)) _ (by simp only [frDkO5, upd1, Nat.reduceEqDiff, reduceIte]) trivial rfl hC
        · have HQ := fun (a' : Act) (va : Value) (w' : World) (h1 : a' = frDkO5 db name p ws.length cap eb ek eu et er ex t p9 g7 (upd1 gs 45 va)) h2 (h3 : laysDkO5 name q0 g0 b0 p9 t1 t2 t3 13 va w') h4 => hQ.out a' w' ⟨va, h1, h2, h3, h4⟩
          have r12 : gs 44 = .pointer (some ⟨p9, 4, none⟩) := hR 12 (hdeps ⟨12, .data⟩ (by simp) rfl)
          have hb := ((ext_iff.1 hC).block _ (lt_of_heap HP9.out)).trans HP9.out
          obtain ⟨z0, z1, z2, z3, z4⟩ := rec_cells (r := ⟨q0, u0, g0, p0, b0⟩) hb
          dsimp only at z0 z1 z2 z3 z4
          have lw1 := lt_of_heap hb
          clear hb
          unfold frDkO5
          go_wp2_with fail
          exact HQ _ (.string b0) _ (by simp only [frDkO5, upd1, r12, Nat.reduceEqDiff, reduceIte]) trivial rfl hC
        · have HQ := fun (a' : Act) (va : Value) (w' : World) (h1 : a' = frDkO5 db name p ws.length cap eb ek eu et er ex t p9 g7 (upd1 gs 46 va)) h2 (h3 : laysDkO5 name q0 g0 b0 p9 t1 t2 t3 14 va w') h4 => hQ.out a' w' ⟨va, h1, h2, h3, h4⟩
          have r13 : gs 45 = .string b0 := hR 13 (hdeps ⟨13, .data⟩ (by simp) rfl)
          unfold frDkO5
          go_wp2_with fail
          exact HQ _ (.int .i64 b0.size) _ (by simp only [frDkO5, upd1, r13, Nat.reduceEqDiff, reduceIte]) trivial rfl hC
        · have HQ := fun (a' : Act) (va : Value) (w' : World) (h1 : a' = frDkO5 db name p ws.length cap eb ek eu et er ex t p9 g7 (upd1 gs 47 va)) h2 (h3 : laysDkO5 name q0 g0 b0 p9 t1 t2 t3 15 va w') h4 => hQ.out a' w' ⟨va, h1, h2, h3, h4⟩
          have r14 : gs 46 = .int .i64 b0.size := hR 14 (hdeps ⟨14, .data⟩ (by simp) rfl)
          unfold frDkO5
          go_wp2_with fail
          refine (I3 w1 (G8.out.ext hC)).mono ?_
          rintro _ w5 ⟨rfl, hx⟩
          go_wp2_with fail
          exact HQ _ (.string t3) _ (by simp only [frDkO5, upd1, r14, Nat.reduceEqDiff, reduceIte]) trivial rfl (ext_trans hC hx)
        · have HQ := fun (a' : Act) (va : Value) (w' : World) (h1 : a' = frDkO5 db name p ws.length cap eb ek eu et er ex t p9 g7 (upd1 gs 48 va)) h2 (h3 : laysDkO5 name q0 g0 b0 p9 t1 t2 t3 16 va w') h4 => hQ.out a' w' ⟨va, h1, h2, h3, h4⟩
          have r11 : gs 43 = .string (name ++ (⟨#[32]⟩ : ByteArray) ++ t1 ++ (⟨#[32]⟩ : ByteArray) ++ t2 ++ (⟨#[32]⟩ : ByteArray)) := hR 11 (hdeps ⟨11, .data⟩ (by simp) rfl)
          have r15 : gs 47 = .string t3 := hR 15 (hdeps ⟨15, .data⟩ (by simp) rfl)
          unfold frDkO5
          go_wp2_with fail
          exact HQ _ (.string (name ++ (⟨#[32]⟩ : ByteArray) ++ t1 ++ (⟨#[32]⟩ : ByteArray) ++ t2 ++ (⟨#[32]⟩ : ByteArray) ++ t3)) _ (by simp only [frDkO5, upd1, r11, r15, Nat.reduceEqDiff, reduceIte]) trivial rfl hC
        · have HQ := fun (a' : Act) (va : Value) (w' : World) (h1 : a' = frDkO5 db name p ws.length cap eb ek eu et er ex t p9 g7 (upd1 gs 6 va)) h2 (h3 : laysDkO5 name q0 g0 b0 p9 t1 t2 t3 17 va w') h4 => hQ.out a' w' ⟨va, h1, h2, h3, h4⟩
          have r16 : gs 48 = .string (name ++ (⟨#[32]⟩ : ByteArray) ++ t1 ++ (⟨#[32]⟩ : ByteArray) ++ t2 ++ (⟨#[32]⟩ : ByteArray) ++ t3) := hR 16 (hdeps ⟨16, .data⟩ (by simp) rfl)
          unfold frDkO5
          go_wp2_with fail
          exact HQ _ (.string (name ++ (⟨#[32]⟩ : ByteArray) ++ t1 ++ (⟨#[32]⟩ : ByteArray) ++ t2 ++ (⟨#[32]⟩ : ByteArray) ++ t3)) _ (by simp only [frDkO5, upd1, r16, Nat.reduceEqDiff, reduceIte]) trivial rfl hC
      intro L9 g9 w9 hall hR hC
      have s6 : g9 6 = .string (name ++ (⟨#[32]⟩ : ByteArray) ++ t1 ++ (⟨#[32]⟩ : ByteArray) ++ t2 ++ (⟨#[32]⟩ : ByteArray) ++ t3) := hR 17 (by decide)
      have X9 := Lib.hid hC
      clear hR hC hall
      unfold frDkO5
      rw [s6]
      clear s6
      go_wp2_with fail
      exact HQ.out _ _ (H8'.out.ext X9.out) (S8.out.trans (.of_ext _ X9.out))
end Go.Proofs.YtnkmckdefiblhaaGreatDoor
