/- desk: Join of words; told (the walks). · desk.told: rows as they are told (the walk). -/
import Derived.Test.YtnkmckdefiblhaaGreatDoorProg
import Derived.Test.YtnkmckdefiblhaaGreatDoorG29
import Derived.Lib.SplitLaws
namespace Go.Proofs.YtnkmckdefiblhaaGreatDoor
open Go.RowKit Go.Shelf

theorem CmdPost.same {x : Ans × DkM} {w w' : World} {A : Blk} {db n : Nat} {M : DkM} {e : Ending} (h : dkIn w A db n M) (hx : ∃ x, w' = ext w x) (he : e = ansE x.1) (hM : x.2 = M) : CmdPost x w A db n e w' :=
  ⟨he, A, by rw [hM]; exact (h.ext hx).mono (by omega), .of_ext A hx⟩
theorem jn_any (p : Option Addr) (ws : List ByteArray) (cap : Nat) (w : World) (ht : textsAt w p ws) (hc : ws.length ≤ cap) (h1 : ws.length ≤ 30000) (h2 : (Lib.join (ws.map (·.data.toList)) [32]).length ≤ 1048576) :
    Calls Tryz.prog 70 #[.slice p ws.length cap, .string ⟨#[32]⟩] w fun e w' => e = .returned (.string (jnT ws)) ∧ ∃ x, w' = ext w x := by
  match ws, ht, hc, h1, h2 with
  | [], _, _, _, _ =>
    refine (Tryz.strings_Join_none p cap _ w).mono ?_
    rintro e w' ⟨rfl, rfl⟩
    exact ⟨rfl, ext_refl _⟩
  | x :: r, ht, hc, h1, h2 =>
    obtain ⟨g, o, rfl, hg, _⟩ := ht 0 x rfl
    refine (Tryz.strings_Join g o cap (x :: r) ⟨#[32]⟩ w (fun j s hj => ?_) hg (by omega) hc (by show (Lib.join ((x :: r).map (·.data.toList)) [32]).length ≤ _; omega)).mono ?_
    · obtain ⟨g', o', h3, h4, h5⟩ := ht j s hj
      injection h3 with h3
      injection h3 with h3 h6
      subst h3 h6
      exact h5
    · rintro e w' ⟨rfl, hb⟩
      exact ⟨rfl, ext_of hb⟩
/-! ### told -/
theorem repK_len (k : Nat) : ∀ s : List UInt8, (Lib.replaceK [32] [95] k s).length ≤ s.length + k := by
  induction k with
  | zero => intro s; exact Nat.le_refl _
  | succ k ih =>
    intro s
    unfold Lib.replaceK
    split
    · omega
    · have := ih (s.drop ((Lib.index s [32]).toNat + [32].length))
      rw [List.length_append, List.length_append, List.length_take]
      rw [List.length_drop] at this
      simp only [List.length_singleton] at this ⊢
      omega
theorem repT_size (s : ByteArray) : (repT s).size ≤ 2 * s.size + 1 := by
  show (Lib.replaceAll s.data.toList [32] [95]).toArray.size ≤ _
  rw [List.size_toArray]
  have hl : s.data.toList.length = s.size := by rw [Array.length_toList]; rfl
  unfold Lib.replaceAll Lib.replace
  rw [if_neg (by decide)]
  have := repK_len (Lib.replaceNum s.data.toList [32] (-1)) s.data.toList
  have hc := Lib.count_le s.data.toList [32]
  have : Lib.replaceNum s.data.toList [32] (-1) = Lib.count s.data.toList [32] := by unfold Lib.replaceNum; rw [if_pos (.inl (by decide))]
  omega
theorem app_size (a b : ByteArray) : (a ++ b).size = a.size + b.size := ByteArray.size_append
def cellOk (c : Cell) : Prop := c.table.size ≤ 10 ∧ c.row.size ≤ 10 ∧ c.subject.size ≤ 10 ∧ c.value.size ≤ 20
theorem cellOk_of {c : Cell} (h : rightE okV ⟨1, c.subject, c.table, c.row, c.value⟩ = true) : cellOk c := by
  unfold rightE at h
  simp only [reduceIte, Bool.and_eq_true, decide_eq_true_eq] at h
  have h1 := nameB_size h.1
  have h2 := nameB_size h.2.1.1.1
  have h3 := nameB_size h.2.1.1.2
  have h4 := h.2.1.2
  exact ⟨h2.2, h3.2, h1.2, h4⟩
theorem rowT_size {c : Cell} (h : cellOk c) : (rowT c).size ≤ 100 := by
  obtain ⟨h1, h2, h3, h4⟩ := h
  have := repT_size c.value
  unfold rowT bl1
  simp only [app_size]
  have e : ∀ x : UInt8, (⟨#[x]⟩ : ByteArray).size = 1 := fun _ => rfl
  simp only [e]
  omega
theorem toldT_take (name : ByteArray) (l : List Cell) (i : Nat) (c : Cell) (h : l[i]? = some c) : toldT name (l.take (i + 1)) = toldT name (l.take i) ++ rowT c := by
  unfold toldT
  rw [List.take_add_one, h, Option.toList_some, List.foldl_append]; rfl
theorem toldT_size (name : ByteArray) (l : List Cell) (h : ∀ c ∈ l, cellOk c) : (toldT name l).size ≤ name.size + 100 * l.length := by
  unfold toldT
  induction l generalizing name with
  | nil => simp
  | cons c l ih =>
    have h1 := ih (name ++ rowT c) (fun d hd => h d (List.mem_cons_of_mem _ hd))
    have h2 := rowT_size (h c (List.mem_cons_self ..))
    rw [app_size] at h1
    rw [List.foldl_cons, List.length_cons]
    omega
theorem rep_any (s : ByteArray) (w : World) (hM : MaxL w) (hs : s.size ≤ 1048576) :
    Calls Tryz.prog 88 #[.string s, .string ⟨#[32]⟩, .string ⟨#[95]⟩] w fun e w' => e = .returned (.string (repT s)) ∧ ∃ x, w' = ext w x := by
  obtain ⟨m, hm⟩ := hM.2
  have hc := Lib.countB_le ⟨#[32]⟩ (by decide) s.size s (Nat.le_refl _)
  refine (Tryz.strings_ReplaceAll s ⟨#[32]⟩ ⟨#[95]⟩ m w (by omega) hm (by decide) (by show s.size + Lib.countB s ⟨#[32]⟩ * 1 ≤ _; omega)).mono ?_
  rintro e w' ⟨rfl, hb⟩
  exact ⟨rfl, ext_of hb⟩
end Go.Proofs.YtnkmckdefiblhaaGreatDoor
namespace Go.Proofs.YtnkmckdefiblhaaGreatDoor
open Go.RowKit Go.Shelf

/-- What stands in the name's place, as long as it was not read. -/
def toldC (b0 b17 : Bool) (v : Value) (sv : ByteArray) : Prop := b0 = true ∨ (b17 = false ∧ v = .string sv)
theorem toldC.at0 {b0 b17 : Bool} {v : Value} {sv : ByteArray} (h : toldC b0 b17 v sv) (h0 : b0 = false) : v = .string sv := by
  rcases h with h | h
  · rw [h0] at h; cases h
  · exact h.2
theorem toldC.of17 {b0 b17 : Bool} {v : Value} {sv : ByteArray} (h : toldC b0 b17 v sv) (h0 : b17 = true) : b0 = true := by
  rcases h with h | h
  · exact h
  · rw [h0] at h; cases h.1
def frTld (g0 : Nat) (nl : Nat) (cap : Nat) (cb : Nat) (k : Nat) (ct : ByteArray) (cr : ByteArray) (cs : ByteArray) (cv : ByteArray) (u31 : Value) (g : Nat → Value) : Act := { tmps := #[g 0, .slice (some ⟨g0, 0, none⟩) nl cap, undef, undef, .string ⟨#[]⟩, undef, .pointer (some ⟨cb, 0, none⟩), .slice (some ⟨g0, 0, none⟩) nl cap, .int .i64 nl, .int .i64 k, .bool true, .pointer (some ⟨g0, k * 4, none⟩), .agg #[.string ct, .string cr, .string cs, .string cv], g 13, g 14, g 15, g 16, g 17, g 18, g 19, g 20, g 21, g 22, g 23, g 24, g 25, g 26, g 27, g 28, g 29, g 30, u31, undef], defers := [] }
def dstTld (i : Nat) : Nat := ([13, 14, 15, 16, 17, 18, 19, 20, 21, 22, 23, 24, 25, 26, 27, 28, 29, 30, 0] : List Nat).getD i (2000 + i)
def laysTld (sv : ByteArray) (cb : Nat) (ct : ByteArray) (cr : ByteArray) (cs : ByteArray) (cv : ByteArray) (rv : ByteArray) (j : Nat) (v : Value) (_ : World) : Prop :=
  match j with
  | 0 => v = .string sv
  | 1 => v = .pointer (some ⟨cb, 0, none⟩)
  | 2 => v = .string ct
  | 3 => v = .string ((⟨#[32]⟩ : ByteArray) ++ ct)
  | 4 => v = .string ((⟨#[32]⟩ : ByteArray) ++ ct ++ (⟨#[46]⟩ : ByteArray))
  | 5 => v = .pointer (some ⟨cb, 1, none⟩)
  | 6 => v = .string cr
  | 7 => v = .string ((⟨#[32]⟩ : ByteArray) ++ ct ++ (⟨#[46]⟩ : ByteArray) ++ cr)
  | 8 => v = .string ((⟨#[32]⟩ : ByteArray) ++ ct ++ (⟨#[46]⟩ : ByteArray) ++ cr ++ (⟨#[58]⟩ : ByteArray))
  | 9 => v = .pointer (some ⟨cb, 2, none⟩)
  | 10 => v = .string cs
  | 11 => v = .string ((⟨#[32]⟩ : ByteArray) ++ ct ++ (⟨#[46]⟩ : ByteArray) ++ cr ++ (⟨#[58]⟩ : ByteArray) ++ cs)
  | 12 => v = .string ((⟨#[32]⟩ : ByteArray) ++ ct ++ (⟨#[46]⟩ : ByteArray) ++ cr ++ (⟨#[58]⟩ : ByteArray) ++ cs ++ (⟨#[61]⟩ : ByteArray))
  | 13 => v = .pointer (some ⟨cb, 3, none⟩)
  | 14 => v = .string cv
  | 15 => v = .string rv
  | 16 => v = .string ((⟨#[32]⟩ : ByteArray) ++ ct ++ (⟨#[46]⟩ : ByteArray) ++ cr ++ (⟨#[58]⟩ : ByteArray) ++ cs ++ (⟨#[61]⟩ : ByteArray) ++ rv)
  | 17 => v = .string (sv ++ ((⟨#[32]⟩ : ByteArray) ++ ct ++ (⟨#[46]⟩ : ByteArray) ++ cr ++ (⟨#[58]⟩ : ByteArray) ++ cs ++ (⟨#[61]⟩ : ByteArray) ++ rv))
  | 18 => v = .string (sv ++ ((⟨#[32]⟩ : ByteArray) ++ ct ++ (⟨#[46]⟩ : ByteArray) ++ cr ++ (⟨#[58]⟩ : ByteArray) ++ cs ++ (⟨#[61]⟩ : ByteArray) ++ rv))
  | _ => True

set_option maxRecDepth 100000 in
set_option maxHeartbeats 8000000 in
theorem told_any (name : ByteArray) (l : List Cell) (q : Option Addr) (cap : Nat) (w : World) (hci : cellsIn w q l) (hM : MaxL w) (hok : ∀ c ∈ l, cellOk c) (hl : l.length ≤ 1000) (hn : name.size ≤ 1000) :
    Calls Tryz.prog 57 #[.string name, .slice q l.length cap] w fun e w' => e = .returned (.string (toldT name l)) ∧ ∃ x, w' = ext w x := by
  have CI := Lib.hid hci
  have MM := Lib.hid hM
  have OK := Lib.hid hok
  clear hci hM hok
  go_enter Tryz.func57, Tryz.ntmps57
  go_wp2_with fail
  go_loopw [0, 9] (fun sv iv wr => ∃ k : Nat, k ≤ l.length ∧ iv = .int .i64 k ∧ sv = .string (toldT name (l.take k)) ∧ Hid (∃ x, wr = ext w x)) (fun _ iv _ => l.length - (intOf iv).toNat)
  case atStart => exact ⟨0, Nat.zero_le _, rfl, rfl, Lib.hid (ext_refl _)⟩
  case round =>
    obtain ⟨k, hk, rfl, rfl, X⟩ := hrel
    by_cases hlt : k < l.length
    · have hx := List.getElem?_eq_getElem hlt
      obtain ⟨g, rfl, hg, e0, e1, e2, e3⟩ := cellsIn_r4 (cellsIn_x CI.out X.out) hx
      have hc := OK.out _ (List.getElem_mem hlt)
      have hts := toldT_take name l k _ hx
      have hsz := toldT_size name (l.take k) (fun c hc => OK.out c (List.mem_of_mem_take hc))
      have hlk : (l.take k).length = k := by rw [List.length_take]; omega
      have hrs := rowT_size hc
      rw [hlk] at hsz
      have HTS := Lib.hid hts
      have hlt' : (k : Int) < l.length := by omega
      unfold rowT bl1 at HTS hrs
      generalize l[k] = c at e0 e1 e2 e3 HTS hc hrs
      clear hx hts hlk
      obtain ⟨ct, cr, cs, cv⟩ := c
      unfold cellOk at hc
      dsimp only at e0 e1 e2 e3 HTS hc hrs
      have RA := fun w hM => rep_any cv w hM (by omega)
      have hrv : (repT cv).size ≤ 41 := by have := repT_size cv; omega
      generalize repT cv = rv at RA HTS hrv hrs
      generalize hsv : toldT name (l.take k) = sv at HTS hsz
      clear hsv
      have hsz2 : sv.size ≤ 101000 := by omega
      clear hsz hrs
      go_wp2_with fail
      have X4 := Lib.hid (ext_alloc (.cells #[.string ct, .string cr, .string cs, .string cv] 152) X.out)
      have HB := Lib.hid (heap_alloc_at wr (.cells #[.string ct, .string cr, .string cs, .string cv] 152))
      generalize wr.heap.size = cb at *
      generalize wr.alloc (.cells #[.string ct, .string cr, .string cs, .string cv] 152) = w4 at *
      refine wp_region_slots (frTld g l.length cap cb k ct cr cs cv u31) dstTld (fun k => if k = 0 then .string sv else if k = 13 then u13 else if k = 14 then u14 else if k = 15 then u15 else if k = 16 then u16 else if k = 17 then u17 else if k = 18 then u18 else if k = 19 then u19 else if k = 20 then u20 else if k = 21 then u21 else if k = 22 then u22 else if k = 23 then u23 else if k = 24 then u24 else if k = 25 then u25 else if k = 26 then u26 else if k = 27 then u27 else if k = 28 then u28 else if k = 29 then u29 else if k = 30 then u30 else undef) (laysTld sv cb ct cr cs cv rv) (fun L g w => (∃ x, w = ext w4 x) ∧ toldC (L 0) (L 17) (g 0) sv) (fun w w' => True) (by kernel_rfl) (by kernel_rfl) rfl ?_ (by kernel_rfl) ⟨ext_drew (ext_refl _), .inr ⟨rfl, rfl⟩⟩ ?_ ?_
      · exact fun _ _ _ _ _ h => h
      · refine ⟨?_, ?_, ?_, ?_, ?_, ?_, ?_, ?_, ?_, ?_, ?_, ?_, ?_, ?_, ?_, ?_, ?_, ?_, ?_, trivial⟩
        all_goals (intro L gs w1 hLi hdeps hR hC; refine ends_of fun Q hQ => ?_)
        · have HQ := fun (a' : Act) (va : Value) (w' : World) (h1 : a' = frTld g l.length cap cb k ct cr cs cv u31 (upd1 gs 13 va)) h2 (h3 : laysTld sv cb ct cr cs cv rv 0 va w') h4 => hQ.out a' w' ⟨va, h1, h2, h3, h4⟩
          have hg0 : gs 0 = .string sv := hC.2.at0 hLi
          unfold frTld
          go_wp2_with fail
          exact HQ _ (.string sv) _ (by simp only [frTld, upd1, hg0, Nat.reduceEqDiff, reduceIte]) trivial rfl ⟨hC.1, .inl rfl⟩
        · have HQ := fun (a' : Act) (va : Value) (w' : World) (h1 : a' = frTld g l.length cap cb k ct cr cs cv u31 (upd1 gs 14 va)) h2 (h3 : laysTld sv cb ct cr cs cv rv 1 va w') h4 => hQ.out a' w' ⟨va, h1, h2, h3, h4⟩
          unfold frTld
          go_wp2_with fail
          exact HQ _ (.pointer (some ⟨cb, 0, none⟩)) _ (by simp only [frTld, upd1, Nat.reduceEqDiff, reduceIte]) trivial rfl hC
        · have HQ := fun (a' : Act) (va : Value) (w' : World) (h1 : a' = frTld g l.length cap cb k ct cr cs cv u31 (upd1 gs 15 va)) h2 (h3 : laysTld sv cb ct cr cs cv rv 2 va w') h4 => hQ.out a' w' ⟨va, h1, h2, h3, h4⟩
          have r1 : gs 14 = .pointer (some ⟨cb, 0, none⟩) := hR 1 (hdeps ⟨1, .data⟩ (by simp) rfl)
          have b0 := ((ext_iff.1 hC.1).block _ (lt_of_heap HB.out)).trans HB.out
          obtain ⟨z0, z1, z2, z3⟩ := cell4 b0
          have lw1 := lt_of_heap b0
          clear b0
          unfold frTld
          go_wp2_with fail
          exact HQ _ (.string ct) _ (by simp only [frTld, upd1, r1, Nat.reduceEqDiff, reduceIte]) trivial rfl hC
        · have HQ := fun (a' : Act) (va : Value) (w' : World) (h1 : a' = frTld g l.length cap cb k ct cr cs cv u31 (upd1 gs 16 va)) h2 (h3 : laysTld sv cb ct cr cs cv rv 3 va w') h4 => hQ.out a' w' ⟨va, h1, h2, h3, h4⟩
          have r2 : gs 15 = .string ct := hR 2 (hdeps ⟨2, .data⟩ (by simp) rfl)
          unfold frTld
          go_wp2_with fail
          exact HQ _ (.string ((⟨#[32]⟩ : ByteArray) ++ ct)) _ (by simp only [frTld, upd1, r2, Nat.reduceEqDiff, reduceIte]) trivial rfl hC
        · have HQ := fun (a' : Act) (va : Value) (w' : World) (h1 : a' = frTld g l.length cap cb k ct cr cs cv u31 (upd1 gs 17 va)) h2 (h3 : laysTld sv cb ct cr cs cv rv 4 va w') h4 => hQ.out a' w' ⟨va, h1, h2, h3, h4⟩
          have r3 : gs 16 = .string ((⟨#[32]⟩ : ByteArray) ++ ct) := hR 3 (hdeps ⟨3, .data⟩ (by simp) rfl)
          unfold frTld
          go_wp2_with fail
          exact HQ _ (.string ((⟨#[32]⟩ : ByteArray) ++ ct ++ (⟨#[46]⟩ : ByteArray))) _ (by simp only [frTld, upd1, r3, Nat.reduceEqDiff, reduceIte]) trivial rfl hC
        · have HQ := fun (a' : Act) (va : Value) (w' : World) (h1 : a' = frTld g l.length cap cb k ct cr cs cv u31 (upd1 gs 18 va)) h2 (h3 : laysTld sv cb ct cr cs cv rv 5 va w') h4 => hQ.out a' w' ⟨va, h1, h2, h3, h4⟩
          unfold frTld
          go_wp2_with fail
          exact HQ _ (.pointer (some ⟨cb, 1, none⟩)) _ (by simp only [frTld, upd1, Nat.reduceEqDiff, reduceIte]) trivial rfl hC
        · have HQ := fun (a' : Act) (va : Value) (w' : World) (h1 : a' = frTld g l.length cap cb k ct cr cs cv u31 (upd1 gs 19 va)) h2 (h3 : laysTld sv cb ct cr cs cv rv 6 va w') h4 => hQ.out a' w' ⟨va, h1, h2, h3, h4⟩
          have r5 : gs 18 = .pointer (some ⟨cb, 1, none⟩) := hR 5 (hdeps ⟨5, .data⟩ (by simp) rfl)
          have b0 := ((ext_iff.1 hC.1).block _ (lt_of_heap HB.out)).trans HB.out
          obtain ⟨z0, z1, z2, z3⟩ := cell4 b0
          have lw1 := lt_of_heap b0
          clear b0
          unfold frTld
          go_wp2_with fail
          exact HQ _ (.string cr) _ (by simp only [frTld, upd1, r5, Nat.reduceEqDiff, reduceIte]) trivial rfl hC
        · have HQ := fun (a' : Act) (va : Value) (w' : World) (h1 : a' = frTld g l.length cap cb k ct cr cs cv u31 (upd1 gs 20 va)) h2 (h3 : laysTld sv cb ct cr cs cv rv 7 va w') h4 => hQ.out a' w' ⟨va, h1, h2, h3, h4⟩
          have r4 : gs 17 = .string ((⟨#[32]⟩ : ByteArray) ++ ct ++ (⟨#[46]⟩ : ByteArray)) := hR 4 (hdeps ⟨4, .data⟩ (by simp) rfl)
          have r6 : gs 19 = .string cr := hR 6 (hdeps ⟨6, .data⟩ (by simp) rfl)
          unfold frTld
          go_wp2_with fail
          exact HQ _ (.string ((⟨#[32]⟩ : ByteArray) ++ ct ++ (⟨#[46]⟩ : ByteArray) ++ cr)) _ (by simp only [frTld, upd1, r4, r6, Nat.reduceEqDiff, reduceIte]) trivial rfl hC
        · have HQ := fun (a' : Act) (va : Value) (w' : World) (h1 : a' = frTld g l.length cap cb k ct cr cs cv u31 (upd1 gs 21 va)) h2 (h3 : laysTld sv cb ct cr cs cv rv 8 va w') h4 => hQ.out a' w' ⟨va, h1, h2, h3, h4⟩
          have r7 : gs 20 = .string ((⟨#[32]⟩ : ByteArray) ++ ct ++ (⟨#[46]⟩ : ByteArray) ++ cr) := hR 7 (hdeps ⟨7, .data⟩ (by simp) rfl)
          unfold frTld
          go_wp2_with fail
          exact HQ _ (.string ((⟨#[32]⟩ : ByteArray) ++ ct ++ (⟨#[46]⟩ : ByteArray) ++ cr ++ (⟨#[58]⟩ : ByteArray))) _ (by simp only [frTld, upd1, r7, Nat.reduceEqDiff, reduceIte]) trivial rfl hC
        · have HQ := fun (a' : Act) (va : Value) (w' : World) (h1 : a' = frTld g l.length cap cb k ct cr cs cv u31 (upd1 gs 22 va)) h2 (h3 : laysTld sv cb ct cr cs cv rv 9 va w') h4 => hQ.out a' w' ⟨va, h1, h2, h3, h4⟩
          unfold frTld
          go_wp2_with fail
          exact HQ _ (.pointer (some ⟨cb, 2, none⟩)) _ (by simp only [frTld, upd1, Nat.reduceEqDiff, reduceIte]) trivial rfl hC
        · have HQ := fun (a' : Act) (va : Value) (w' : World) (h1 : a' = frTld g l.length cap cb k ct cr cs cv u31 (upd1 gs 23 va)) h2 (h3 : laysTld sv cb ct cr cs cv rv 10 va w') h4 => hQ.out a' w' ⟨va, h1, h2, h3, h4⟩
          have r9 : gs 22 = .pointer (some ⟨cb, 2, none⟩) := hR 9 (hdeps ⟨9, .data⟩ (by simp) rfl)
          have b0 := ((ext_iff.1 hC.1).block _ (lt_of_heap HB.out)).trans HB.out
          obtain ⟨z0, z1, z2, z3⟩ := cell4 b0
          have lw1 := lt_of_heap b0
          clear b0
          unfold frTld
          go_wp2_with fail
          exact HQ _ (.string cs) _ (by simp only [frTld, upd1, r9, Nat.reduceEqDiff, reduceIte]) trivial rfl hC
        · have HQ := fun (a' : Act) (va : Value) (w' : World) (h1 : a' = frTld g l.length cap cb k ct cr cs cv u31 (upd1 gs 24 va)) h2 (h3 : laysTld sv cb ct cr cs cv rv 11 va w') h4 => hQ.out a' w' ⟨va, h1, h2, h3, h4⟩
          have r8 : gs 21 = .string ((⟨#[32]⟩ : ByteArray) ++ ct ++ (⟨#[46]⟩ : ByteArray) ++ cr ++ (⟨#[58]⟩ : ByteArray)) := hR 8 (hdeps ⟨8, .data⟩ (by simp) rfl)
          have r10 : gs 23 = .string cs := hR 10 (hdeps ⟨10, .data⟩ (by simp) rfl)
          unfold frTld
          go_wp2_with fail
          exact HQ _ (.string ((⟨#[32]⟩ : ByteArray) ++ ct ++ (⟨#[46]⟩ : ByteArray) ++ cr ++ (⟨#[58]⟩ : ByteArray) ++ cs)) _ (by simp only [frTld, upd1, r8, r10, Nat.reduceEqDiff, reduceIte]) trivial rfl hC
        · have HQ := fun (a' : Act) (va : Value) (w' : World) (h1 : a' = frTld g l.length cap cb k ct cr cs cv u31 (upd1 gs 25 va)) h2 (h3 : laysTld sv cb ct cr cs cv rv 12 va w') h4 => hQ.out a' w' ⟨va, h1, h2, h3, h4⟩
          have r11 : gs 24 = .string ((⟨#[32]⟩ : ByteArray) ++ ct ++ (⟨#[46]⟩ : ByteArray) ++ cr ++ (⟨#[58]⟩ : ByteArray) ++ cs) := hR 11 (hdeps ⟨11, .data⟩ (by simp) rfl)
          unfold frTld
          go_wp2_with fail
          exact HQ _ (.string ((⟨#[32]⟩ : ByteArray) ++ ct ++ (⟨#[46]⟩ : ByteArray) ++ cr ++ (⟨#[58]⟩ : ByteArray) ++ cs ++ (⟨#[61]⟩ : ByteArray))) _ (by simp only [frTld, upd1, r11, Nat.reduceEqDiff, reduceIte]) trivial rfl hC
        · have HQ := fun (a' : Act) (va : Value) (w' : World) (h1 : a' = frTld g l.length cap cb k ct cr cs cv u31 (upd1 gs 26 va)) h2 (h3 : laysTld sv cb ct cr cs cv rv 13 va w') h4 => hQ.out a' w' ⟨va, h1, h2, h3, h4⟩
          unfold frTld
          go_wp2_with fail
          exact HQ _ (.pointer (some ⟨cb, 3, none⟩)) _ (by simp only [frTld, upd1, Nat.reduceEqDiff, reduceIte]) trivial rfl hC
        · have HQ := fun (a' : Act) (va : Value) (w' : World) (h1 : a' = frTld g l.length cap cb k ct cr cs cv u31 (upd1 gs 27 va)) h2 (h3 : laysTld sv cb ct cr cs cv rv 14 va w') h4 => hQ.out a' w' ⟨va, h1, h2, h3, h4⟩
          have r13 : gs 26 = .pointer (some ⟨cb, 3, none⟩) := hR 13 (hdeps ⟨13, .data⟩ (by simp) rfl)
          have b0 := ((ext_iff.1 hC.1).block _ (lt_of_heap HB.out)).trans HB.out
          obtain ⟨z0, z1, z2, z3⟩ := cell4 b0
          have lw1 := lt_of_heap b0
          clear b0
          unfold frTld
          go_wp2_with fail
          exact HQ _ (.string cv) _ (by simp only [frTld, upd1, r13, Nat.reduceEqDiff, reduceIte]) trivial rfl hC
        · have HQ := fun (a' : Act) (va : Value) (w' : World) (h1 : a' = frTld g l.length cap cb k ct cr cs cv u31 (upd1 gs 28 va)) h2 (h3 : laysTld sv cb ct cr cs cv rv 15 va w') h4 => hQ.out a' w' ⟨va, h1, h2, h3, h4⟩
          have r14 : gs 27 = .string cv := hR 14 (hdeps ⟨14, .data⟩ (by simp) rfl)
          unfold frTld
          go_wp2_with fail
          refine (RA w1 (MaxL_ext MM.out (ext_trans X4.out hC.1))).mono ?_
          rintro _ w5 ⟨rfl, hx⟩
          go_wp2_with fail
          exact HQ _ (.string rv) _ (by simp only [frTld, upd1, r14, Nat.reduceEqDiff, reduceIte]) trivial rfl ⟨ext_trans hC.1 hx, hC.2⟩
        · have HQ := fun (a' : Act) (va : Value) (w' : World) (h1 : a' = frTld g l.length cap cb k ct cr cs cv u31 (upd1 gs 29 va)) h2 (h3 : laysTld sv cb ct cr cs cv rv 16 va w') h4 => hQ.out a' w' ⟨va, h1, h2, h3, h4⟩
          have r12 : gs 25 = .string ((⟨#[32]⟩ : ByteArray) ++ ct ++ (⟨#[46]⟩ : ByteArray) ++ cr ++ (⟨#[58]⟩ : ByteArray) ++ cs ++ (⟨#[61]⟩ : ByteArray)) := hR 12 (hdeps ⟨12, .data⟩ (by simp) rfl)
          have r15 : gs 28 = .string rv := hR 15 (hdeps ⟨15, .data⟩ (by simp) rfl)
          unfold frTld
          go_wp2_with fail
          exact HQ _ (.string ((⟨#[32]⟩ : ByteArray) ++ ct ++ (⟨#[46]⟩ : ByteArray) ++ cr ++ (⟨#[58]⟩ : ByteArray) ++ cs ++ (⟨#[61]⟩ : ByteArray) ++ rv)) _ (by simp only [frTld, upd1, r12, r15, Nat.reduceEqDiff, reduceIte]) trivial rfl hC
        · have HQ := fun (a' : Act) (va : Value) (w' : World) (h1 : a' = frTld g l.length cap cb k ct cr cs cv u31 (upd1 gs 30 va)) h2 (h3 : laysTld sv cb ct cr cs cv rv 17 va w') h4 => hQ.out a' w' ⟨va, h1, h2, h3, h4⟩
          have r0 : gs 13 = .string sv := hR 0 (hdeps ⟨0, .data⟩ (by simp) rfl)
          have r16 : gs 29 = .string ((⟨#[32]⟩ : ByteArray) ++ ct ++ (⟨#[46]⟩ : ByteArray) ++ cr ++ (⟨#[58]⟩ : ByteArray) ++ cs ++ (⟨#[61]⟩ : ByteArray) ++ rv) := hR 16 (hdeps ⟨16, .data⟩ (by simp) rfl)
          have h0 : L 0 = true := hdeps ⟨0, .data⟩ (by simp) rfl
          unfold frTld
          go_wp2_with fail
          exact HQ _ (.string (sv ++ ((⟨#[32]⟩ : ByteArray) ++ ct ++ (⟨#[46]⟩ : ByteArray) ++ cr ++ (⟨#[58]⟩ : ByteArray) ++ cs ++ (⟨#[61]⟩ : ByteArray) ++ rv))) _ (by simp only [frTld, upd1, r0, r16, Nat.reduceEqDiff, reduceIte]) trivial rfl ⟨hC.1, .inl h0⟩
        · have HQ := fun (a' : Act) (va : Value) (w' : World) (h1 : a' = frTld g l.length cap cb k ct cr cs cv u31 (upd1 gs 0 va)) h2 (h3 : laysTld sv cb ct cr cs cv rv 18 va w') h4 => hQ.out a' w' ⟨va, h1, h2, h3, h4⟩
          have r17 : gs 30 = .string (sv ++ ((⟨#[32]⟩ : ByteArray) ++ ct ++ (⟨#[46]⟩ : ByteArray) ++ cr ++ (⟨#[58]⟩ : ByteArray) ++ cs ++ (⟨#[61]⟩ : ByteArray) ++ rv)) := hR 17 (hdeps ⟨17, .data⟩ (by simp) rfl)
          have h17 : L 17 = true := hdeps ⟨17, .data⟩ (by simp) rfl
          unfold frTld
          go_wp2_with fail
          exact HQ _ (.string (sv ++ ((⟨#[32]⟩ : ByteArray) ++ ct ++ (⟨#[46]⟩ : ByteArray) ++ cr ++ (⟨#[58]⟩ : ByteArray) ++ cs ++ (⟨#[61]⟩ : ByteArray) ++ rv))) _ (by simp only [frTld, upd1, r17, Nat.reduceEqDiff, reduceIte]) trivial rfl ⟨hC.1, .inl (hC.2.of17 h17)⟩
      intro L4 gg w6 hall hR hC
      have s0 : gg 0 = .string (sv ++ ((⟨#[32]⟩ : ByteArray) ++ ct ++ (⟨#[46]⟩ : ByteArray) ++ cr ++ (⟨#[58]⟩ : ByteArray) ++ cs ++ (⟨#[61]⟩ : ByteArray) ++ rv)) := hR 18 (by decide)
      have X6 := Lib.hid (ext_trans X4.out hC.1)
      clear hR hC hall
      unfold frTld
      rw [s0]
      clear s0
      go_wp2_with fail
      go_roundw
      case rel => exact ⟨k + 1, hlt, by go_num, by rw [HTS.out], X6⟩
      case measure => simp [intOf]; omega
    · obtain rfl : k = l.length := by omega
      go_wp2_with fail
      go_ret
      exact ⟨by rw [List.take_length]; rfl, X.out⟩
end Go.Proofs.YtnkmckdefiblhaaGreatDoor
