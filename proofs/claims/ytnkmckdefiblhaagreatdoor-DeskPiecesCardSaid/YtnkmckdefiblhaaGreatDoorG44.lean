/- DeskPieces: the answers to the first lines are the beginning of the answers to all (plain laws). · DeskPieces: the session that the statement tells (plain laws). · DeskPieces (the walk). · What the rows' condition says of the package-level variables, in the walks' words. · What the row's condition says of strconv's two sentinels and of the table of powers, in the walks' words. -/
import Derived.Test.YtnkmckdefiblhaaGreatDoorProg
import Derived.Test.YtnkmckdefiblhaaGreatDoorG42
import Derived.Lib.IndexLaws
import Derived.Test.YtnkmckdefiblhaaGreatDoorG43
import Derived.Test.YtnkmckdefiblhaaGreatDoorRows
import Derived.Test.YtnkmckdefiblhaaGreatDoorG8
import Derived.Lib.LaidTab
import Derived.Stop.LaidErr
import Derived.LaidMore
import Derived.MakeChecks
import Derived.Test.YtnkmckdefiblhaaGreatDoorG18
import Derived.LaidHandle
import Derived.Test.YtnkmckdefiblhaaGreatDoorG26
import Derived.LaidLaws
namespace Go.Proofs.YtnkmckdefiblhaaGreatDoor

/-! ### Lines -/
def linesL : List UInt8 → List (List UInt8)
  | [] => [[]]
  | x :: l => if x = 10 then [] :: linesL l else match linesL l with
    | [] => [[x]]
    | y :: ys => (x :: y) :: ys
theorem linesL_ne (l : List UInt8) : ∃ y ys, linesL l = y :: ys := by
  cases l with
  | nil => exact ⟨_, _, rfl⟩
  | cons x l =>
    unfold linesL
    split
    · exact ⟨_, _, rfl⟩
    · split <;> exact ⟨_, _, rfl⟩
theorem linesL_cat (c : List UInt8) : ∀ a : List UInt8, linesL (a ++ 10 :: c) = linesL a ++ linesL c
  | [] => by
    show linesL (10 :: c) = [[]] ++ linesL c
    rw [linesL, if_pos rfl]; rfl
  | x :: a => by
    have ih := linesL_cat c a
    rw [List.cons_append, linesL, linesL]
    by_cases hx : x = 10
    · rw [if_pos hx, if_pos hx, ih]; rfl
    · rw [if_neg hx, if_neg hx, ih]
      obtain ⟨y, ys, h⟩ := linesL_ne a
      rw [h]; rfl
theorem linesL_one : ∀ l : List UInt8, (∀ k : Nat, l[k]? ≠ some 10) → linesL l = [l]
  | [], _ => rfl
  | x :: l, h => by
    have h0 : x ≠ 10 := fun e => h 0 (by rw [List.getElem?_cons_zero, e])
    have ih := linesL_one l (fun k => by have := h (k + 1); rwa [List.getElem?_cons_succ] at this)
    rw [linesL, if_neg h0, ih]
theorem linesK_is : ∀ (f : Nat) (u : ByteArray), u.size ≤ f → linesK f u = (linesL (txt u)).map mkT := by
  intro f
  induction f with
  | zero =>
    intro u h
    have : txt u = [] := List.eq_nil_of_length_eq_zero (by show u.data.toList.length = 0; rw [Array.length_toList]; show u.size = 0; omega)
    rw [this]
    show [u] = [mkT []]
    rw [← this, mkT_txt]
  | succ f ih =>
    intro u h
    by_cases hi : lfI u < 0
    · have hn : Lib.indexByte (txt u) 10 = -1 := by have := Lib.indexByte_ge (txt u) 10; have : Lib.indexByte (txt u) 10 < 0 := hi; omega
      rw [linesK_stop hi, linesL_one _ (Lib.indexByte_none hn)]
      show [u] = [mkT (txt u)]
      rw [mkT_txt]
    · obtain ⟨g, h1, h2, h3⟩ := linesK_next hi h
      obtain rfl : f = g := by omega
      have hlt := lfI_lt u (by omega)
      obtain ⟨j, hj⟩ : ∃ j : Nat, lfI u = (j : Int) := ⟨(lfI u).toNat, by omega⟩
      rw [hj] at h2 h3 hlt
      rw [show ((j : Int)).toNat = j from rfl] at h2 h3 hlt
      have hx : Lib.indexByte (txt u) 10 = (j : Int) := hj
      obtain ⟨k1, k2⟩ := Lib.indexByte_some hx
      have hlen : (txt u).length = u.size := by show u.data.toList.length = u.size; rw [Array.length_toList]; rfl
      have hsp : txt u = (txt u).take j ++ 10 :: (txt u).drop (j + 1) := by
        have hj2 : j < (txt u).length := by omega
        have := (List.getElem?_eq_some_iff.1 k1).2
        have e := List.drop_eq_getElem_cons hj2
        rw [this] at e
        rw [← e, List.take_append_drop]
      have hone : linesL ((txt u).take j) = [(txt u).take j] := linesL_one _ (fun k => by
        by_cases hk : k < j
        · rw [List.getElem?_take_of_lt hk]; exact k2 k hk
        · rw [List.getElem?_eq_none (by rw [List.length_take]; omega)]; simp)
      have e1 : u.extract 0 j = mkT ((txt u).take j) := by
        have := extract_front (txt u) j
        rwa [show (⟨(txt u).toArray⟩ : ByteArray) = u from mkT_txt u] at this
      have e2 : txt (u.extract (j + 1) u.size) = (txt u).drop (j + 1) := by
        have := data_extract (txt u) (j + 1) u.size
        rw [show (⟨(txt u).toArray⟩ : ByteArray) = u from mkT_txt u] at this
        show (u.extract (j + 1) u.size).data.toList = _
        rw [this, List.take_of_length_le (by rw [List.length_drop]; omega)]
      rw [h2, ih _ h3, e2, e1]
      conv => rhs; rw [hsp, linesL_cat, hone]
      rfl
theorem linesB_is (u : ByteArray) : linesB u = (linesL (txt u)).map mkT := linesK_is u.size u (Nat.le_refl _)
theorem linesB_cat (a c : ByteArray) : linesB (a ++ ⟨#[10]⟩ ++ c) = linesB a ++ linesB c := by
  rw [linesB_is, linesB_is, linesB_is, ← List.map_append, ← linesL_cat]
  congr 2
  show (a ++ ⟨#[10]⟩ ++ c).data.toList = _
  rw [data_append, data_append, List.append_assoc]; rfl
/-! ### The line feed at the end -/
theorem trimT_end (a : ByteArray) : trimT (a ++ ⟨#[10]⟩) = a := by
  unfold trimT Lib.trimSuffix
  rw [data_append]
  have h : Lib.hasSuffix (a.data.toList ++ [10]) [10] = true := by
    unfold Lib.hasSuffix
    exact List.isSuffixOf_iff_suffix.2 (List.suffix_append _ _)
  show (⟨(if Lib.hasSuffix (a.data.toList ++ [10]) [10] = true then _ else _ : List UInt8).toArray⟩ : ByteArray) = a
  rw [if_pos h, List.length_append, Nat.add_sub_cancel, List.take_left']
  rfl
theorem trimT_cat (a b : ByteArray) (hb : b.size ≠ 0) : trimT (a ++ ⟨#[10]⟩ ++ b) = a ++ ⟨#[10]⟩ ++ trimT b := by
  have hne : txt b ≠ [] := fun e => hb (by show b.data.size = 0; rw [← Array.length_toList]; exact List.length_eq_zero_iff.2 e)
  apply txt_inj
  show (trimT (a ++ ⟨#[10]⟩ ++ b)).data.toList = (a ++ ⟨#[10]⟩ ++ trimT b).data.toList
  rw [data_append]
  show Lib.trimSuffix (a ++ ⟨#[10]⟩ ++ b).data.toList [10] = _ ++ Lib.trimSuffix b.data.toList [10]
  rw [data_append]
  generalize (a ++ ⟨#[10]⟩).data.toList = p
  change txt b ≠ [] at hne
  unfold txt at hne
  generalize b.data.toList = q at hne
  unfold Lib.trimSuffix
  have hs : Lib.hasSuffix (p ++ q) [10] = Lib.hasSuffix q [10] := by
    unfold Lib.hasSuffix
    obtain ⟨q', x, rfl⟩ : ∃ q' x, q = q' ++ [x] := ⟨q.dropLast, q.getLast hne, (List.dropLast_concat_getLast hne).symm⟩
    have key : ∀ l : List UInt8, ([10] : List UInt8).isSuffixOf (l ++ [x]) = decide (x = 10) := fun l => by
      rw [Bool.eq_iff_iff, List.isSuffixOf_iff_suffix, decide_eq_true_eq]
      constructor
      · rintro ⟨t, ht⟩
        have := congrArg List.getLast? ht
        rw [List.getLast?_concat, List.getLast?_concat] at this
        injection this with this
        exact this.symm
      · rintro rfl
        exact ⟨l, rfl⟩
    rw [← List.append_assoc, key, key]
  rw [hs]
  split
  · rename_i h
    have hl : 1 ≤ q.length := List.length_pos_iff.2 hne
    rw [List.length_append, show p.length + q.length - ([10] : List UInt8).length = p.length + (q.length - ([10] : List UInt8).length) by simp only [List.length_singleton]; omega, List.take_length_add_append]
  · rfl
/-! ### Sessions -/
theorem fold_more : ∀ (B : List ByteArray) (p : ByteArray × DkM), ∃ z, (B.foldl sessF p).1 = p.1 ++ z
  | [], p => ⟨⟨#[]⟩, by
      show p.1 = p.1 ++ ⟨#[]⟩
      apply txt_inj
      show _ = (p.1 ++ ⟨#[]⟩).data.toList
      rw [data_append]
      exact (List.append_nil _).symm⟩
  | x :: B, p => by
    obtain ⟨z, hz⟩ := fold_more B (sessF p x)
    refine ⟨((lineA p.2 x).1 ++ ⟨#[10]⟩) ++ z, ?_⟩
    rw [List.foldl_cons, hz]
    show (p.1 ++ ((lineA p.2 x).1 ++ ⟨#[10]⟩)) ++ z = _
    rw [ByteArray.append_assoc]
theorem sess_pieces (a b : ByteArray) : ∃ z, sessB (a ++ ⟨#[10]⟩ ++ b) = sessB (a ++ ⟨#[10]⟩) ++ z := by
  by_cases hb : b.size = 0
  · have e : a ++ ⟨#[10]⟩ ++ b = a ++ ⟨#[10]⟩ := by
      apply txt_inj
      show (a ++ ⟨#[10]⟩ ++ b).data.toList = (a ++ ⟨#[10]⟩).data.toList
      rw [data_append, show b.data.toList = [] from List.eq_nil_of_length_eq_zero (by rw [Array.length_toList]; exact hb), List.append_nil]
    rw [e]
    exact ⟨⟨#[]⟩, by
      apply txt_inj
      show _ = (sessB (a ++ ⟨#[10]⟩) ++ ⟨#[]⟩).data.toList
      rw [data_append]
      exact (List.append_nil _).symm⟩
  · unfold sessB sessP
    rw [trimT_cat a b hb, trimT_end, linesB_cat, List.foldl_append]
    exact fold_more _ _
theorem pieces_prefix (a b : ByteArray) : (sessB (a ++ ⟨#[10]⟩)).size ≤ (sessB (a ++ ⟨#[10]⟩ ++ b)).size ∧ (sessB (a ++ ⟨#[10]⟩ ++ b)).extract 0 (sessB (a ++ ⟨#[10]⟩)).size = sessB (a ++ ⟨#[10]⟩) := by
  obtain ⟨z, hz⟩ := sess_pieces a b
  rw [hz]
  generalize sessB (a ++ ⟨#[10]⟩) = x
  refine ⟨by rw [app_size]; omega, ?_⟩
  apply txt_inj
  have h := extract_front (txt (x ++ z)) x.size
  rw [show (⟨(txt (x ++ z)).toArray⟩ : ByteArray) = x ++ z from mkT_txt _] at h
  rw [h]
  show (txt (x ++ z)).take x.size = txt x
  unfold txt
  rw [data_append, List.take_left']
  rw [Array.length_toList]; rfl
end Go.Proofs.YtnkmckdefiblhaaGreatDoor
namespace Go.Proofs.YtnkmckdefiblhaaGreatDoor

theorem line_is {M : DkM} {s k : ByteArray} {ws : List ByteArray} {D : Cmd} (hf : Lib.goFieldsP blank s = k :: ws) (hD : findS k cmdL = some D) : lineA M s = (ansT (D M ws).1, (D M ws).2) := by
  unfold lineA
  rw [hf]
  dsimp only
  unfold cmdA
  rw [hD]
theorem line_no {M : DkM} {s k : ByteArray} {ws : List ByteArray} (hf : Lib.goFieldsP blank s = k :: ws) (hD : findS k cmdL = none) : lineA M s = (errS 3, M) := by
  unfold lineA
  rw [hf]
  dsimp only
  unfold cmdA
  rw [hD]
  rfl
def gen1 (S : SrcM) (e : Ev) : Int := if e.kind = 3 then 0 else (makeN S.many S.has e.subject : Nat)
def siz1 (e : Ev) : Nat := if e.kind = 3 then (printL e).length else 16 + (printL e).length
def didT (name : ByteArray) (S : SrcM) (e : Ev) : ByteArray := name ++ bl1 ++ itoaT ((S.L.length : Int) + 1) ++ bl1 ++ itoaT (gen1 S e) ++ bl1 ++ itoaT (siz1 e : Nat)
theorem told_size (sec : ByteArray) (many : ByteArray → Nat) (has : ByteArray → Bool) (L : List Rec) (e : Ev) : (toldR sec many has L e).body.size = siz1 e := by
  have hm : (mkT (printL e)).size = (printL e).length := by show (printL e).toArray.size = _; rw [List.size_toArray]
  unfold toldR siz1
  by_cases hk : e.kind = 3
  · rw [if_pos hk, if_pos hk]; exact hm
  · rw [if_neg hk, if_neg hk]
    show (mkS _).size = _
    rw [mkS_size, sealB_length, hm]
theorem doA_is (name : ByteArray) (M : DkM) (ws : List ByteArray) (e : Ev) (h1 : txt (name ++ bl1 ++ jnT ws) = printL e) (hr : rightE okV e = true) (hx : doF M.S e = 0) : doA name M ws = (.ok (didT name M.S e), didM M e) := by
  obtain ⟨p1, p2⟩ := read_print hr
  have hpe : parseE (name ++ bl1 ++ jnT ws) = e := by unfold parseE; rw [h1, if_pos p1, p2]
  unfold doA
  rw [if_pos (by rw [h1]; exact p1), hpe]
  unfold doE
  rw [if_pos hx]
  unfold doT didT
  obtain ⟨f1, _, _, f4⟩ := toldR_fields M.sec M.S.many M.S.has M.S.L e
  rw [f1, f4, told_size]
  rfl
def eB : Ev := ⟨1, ⟨#[98, 111, 98]⟩, ⟨#[109, 97, 105, 108]⟩, ⟨#[98, 97, 103]⟩, ⟨#[99]⟩⟩
def eC : Ev := ⟨3, ⟨#[97, 110, 110]⟩, ⟨#[]⟩, ⟨#[]⟩, ⟨#[]⟩⟩
def xN : ByteArray := ⟨#[120]⟩
def yN : ByteArray := ⟨#[121]⟩
def nine : ByteArray := ⟨#[57]⟩
def M0 : DkM := newM ⟨#[]⟩
def M1 : DkM := didM M0 happE
def M2 : DkM := (readD M1 [xN, nine]).2
def M3 : DkM := didM M2 eB
def M4 : DkM := didM M3 eC
def M5 : DkM := (readD M4 [xN, nine]).2
def M6 : DkM := (readD M5 [yN, nine]).2
def M7 : DkM := (rowsD M6 [xN]).2
def M8 : DkM := (rowsD M7 [yN]).2
def M9 : DkM := (lostD M8 [xN]).2
def M10 : DkM := (lostD M9 [yN]).2
def linesQ : List ByteArray := [⟨#[112, 117, 116, 32, 97, 110, 110, 32, 109, 97, 105, 108, 32, 98, 111, 120, 32, 97, 32, 98]⟩, ⟨#[114, 101, 97, 100, 32, 120, 32, 57]⟩, ⟨#[112, 117, 116, 32, 98, 111, 98, 32, 109, 97, 105, 108, 32, 98, 97, 103, 32, 99]⟩, ⟨#[103, 111, 110, 101, 32, 97, 110, 110]⟩, ⟨#[114, 101, 97, 100, 32, 120, 32, 57]⟩, ⟨#[114, 101, 97, 100, 32, 121, 32, 57]⟩, ⟨#[114, 111, 119, 115, 32, 120]⟩, ⟨#[114, 111, 119, 115, 32, 121]⟩, ⟨#[108, 111, 115, 116, 32, 120]⟩, ⟨#[108, 111, 115, 116, 32, 121]⟩, ⟨#[99, 101, 108, 108, 115]⟩, ⟨#[115, 117, 98, 106, 101, 99, 116, 115]⟩, ⟨#[120]⟩]
theorem eB_right : rightE okV eB = true := by decide +kernel
theorem eC_right : rightE okV eC = true := by decide +kernel
theorem step1 : lineA M0 ⟨#[112, 117, 116, 32, 97, 110, 110, 32, 109, 97, 105, 108, 32, 98, 111, 120, 32, 97, 32, 98]⟩ = (⟨#[112, 117, 116, 32, 49, 32, 49, 32, 51, 54]⟩, M1) := by
  have hx : doF M0.S happE = 0 := by decide +kernel
  rw [line_is (D := doA putN) (k := ⟨#[112, 117, 116]⟩) (ws := [⟨#[97, 110, 110]⟩, ⟨#[109, 97, 105, 108]⟩, ⟨#[98, 111, 120]⟩, ⟨#[97]⟩, ⟨#[98]⟩]) (by decide +kernel) rfl, doA_is putN M0 _ happE (by decide +kernel) happ_right hx]
  refine Prod.ext (?_ : didT putN M0.S happE = _) rfl
  decide +kernel
theorem step2 : lineA M1 ⟨#[114, 101, 97, 100, 32, 120, 32, 57]⟩ = (⟨#[114, 101, 97, 100, 32, 49]⟩, M2) := by
  rw [line_is (D := readD) (k := ⟨#[114, 101, 97, 100]⟩) (ws := [xN, nine]) (by decide +kernel) rfl]
  refine Prod.ext (?_ : ansT (readD M1 [xN, nine]).1 = _) rfl
  decide +kernel
theorem step3 : lineA M2 ⟨#[112, 117, 116, 32, 98, 111, 98, 32, 109, 97, 105, 108, 32, 98, 97, 103, 32, 99]⟩ = (⟨#[112, 117, 116, 32, 50, 32, 49, 32, 51, 52]⟩, M3) := by
  have hx : doF M2.S eB = 0 := by decide +kernel
  rw [line_is (D := doA putN) (k := ⟨#[112, 117, 116]⟩) (ws := [⟨#[98, 111, 98]⟩, ⟨#[109, 97, 105, 108]⟩, ⟨#[98, 97, 103]⟩, ⟨#[99]⟩]) (by decide +kernel) rfl, doA_is putN M2 _ eB (by decide +kernel) eB_right hx]
  refine Prod.ext (?_ : didT putN M2.S eB = _) rfl
  decide +kernel
theorem step4 : lineA M3 ⟨#[103, 111, 110, 101, 32, 97, 110, 110]⟩ = (⟨#[103, 111, 110, 101, 32, 51, 32, 48, 32, 56]⟩, M4) := by
  have hx : doF M3.S eC = 0 := by decide +kernel
  rw [line_is (D := doA goneN) (k := ⟨#[103, 111, 110, 101]⟩) (ws := [⟨#[97, 110, 110]⟩]) (by decide +kernel) rfl, doA_is goneN M3 _ eC (by decide +kernel) eC_right hx]
  refine Prod.ext (?_ : didT goneN M3.S eC = _) rfl
  decide +kernel
theorem step5 : lineA M4 ⟨#[114, 101, 97, 100, 32, 120, 32, 57]⟩ = (⟨#[114, 101, 97, 100, 32, 51]⟩, M5) := by
  rw [line_is (D := readD) (k := ⟨#[114, 101, 97, 100]⟩) (ws := [xN, nine]) (by decide +kernel) rfl]
  refine Prod.ext (?_ : ansT (readD M4 [xN, nine]).1 = _) rfl
  decide +kernel
theorem step6 : lineA M5 ⟨#[114, 101, 97, 100, 32, 121, 32, 57]⟩ = (⟨#[114, 101, 97, 100, 32, 51]⟩, M6) := by
  rw [line_is (D := readD) (k := ⟨#[114, 101, 97, 100]⟩) (ws := [yN, nine]) (by decide +kernel) rfl]
  refine Prod.ext (?_ : ansT (readD M5 [yN, nine]).1 = _) rfl
  decide +kernel
theorem step7 : lineA M6 ⟨#[114, 111, 119, 115, 32, 120]⟩ = (⟨#[114, 111, 119, 115, 32, 109, 97, 105, 108, 46, 98, 97, 103, 58, 98, 111, 98, 61, 99]⟩, M7) := by
  rw [line_is (D := rowsD) (k := ⟨#[114, 111, 119, 115]⟩) (ws := [xN]) (by decide +kernel) rfl]
  refine Prod.ext (?_ : ansT (rowsD M6 [xN]).1 = _) rfl
  decide +kernel
theorem step8 : lineA M7 ⟨#[114, 111, 119, 115, 32, 121]⟩ = (⟨#[114, 111, 119, 115, 32, 109, 97, 105, 108, 46, 98, 97, 103, 58, 98, 111, 98, 61, 99]⟩, M8) := by
  rw [line_is (D := rowsD) (k := ⟨#[114, 111, 119, 115]⟩) (ws := [yN]) (by decide +kernel) rfl]
  refine Prod.ext (?_ : ansT (rowsD M7 [yN]).1 = _) rfl
  decide +kernel
theorem step9 : lineA M8 ⟨#[108, 111, 115, 116, 32, 120]⟩ = (⟨#[108, 111, 115, 116, 32, 48]⟩, M9) := by
  rw [line_is (D := lostD) (k := ⟨#[108, 111, 115, 116]⟩) (ws := [xN]) (by decide +kernel) rfl]
  refine Prod.ext (?_ : ansT (lostD M8 [xN]).1 = _) rfl
  decide +kernel
theorem step10 : lineA M9 ⟨#[108, 111, 115, 116, 32, 121]⟩ = (⟨#[108, 111, 115, 116, 32, 49]⟩, M10) := by
  rw [line_is (D := lostD) (k := ⟨#[108, 111, 115, 116]⟩) (ws := [yN]) (by decide +kernel) rfl]
  refine Prod.ext (?_ : ansT (lostD M9 [yN]).1 = _) rfl
  decide +kernel
theorem step11 : lineA M10 ⟨#[99, 101, 108, 108, 115]⟩ = (⟨#[99, 101, 108, 108, 115, 32, 109, 97, 105, 108, 46, 98, 97, 103, 58, 98, 111, 98, 61, 99]⟩, M10) := by
  rw [line_is (D := cellsD) (k := ⟨#[99, 101, 108, 108, 115]⟩) (ws := []) (by decide +kernel) rfl]
  refine Prod.ext (?_ : ansT (cellsD M10 []).1 = _) rfl
  decide +kernel
theorem readD_S (M : DkM) (ws : List ByteArray) : (readD M ws).2.S = M.S := by
  unfold readD
  split
  · split <;> rfl
  · rfl
theorem rowsD_S (M : DkM) (ws : List ByteArray) : (rowsD M ws).2.S = M.S := by unfold rowsD; split <;> rfl
theorem lostD_S (M : DkM) (ws : List ByteArray) : (lostD M ws).2.S = M.S := by unfold lostD; split <;> rfl
theorem M10_S : M10.S = M4.S := by
  unfold M10; rw [lostD_S]
  unfold M9; rw [lostD_S]
  unfold M8; rw [rowsD_S]
  unfold M7; rw [rowsD_S]
  unfold M6; rw [readD_S]
  unfold M5; rw [readD_S]
theorem M2_S : M2.S = M1.S := by unfold M2; rw [readD_S]
theorem has_bob : ∀ s, txt s ∈ [txt (⟨#[98, 111, 98]⟩ : ByteArray)] ↔ M10.S.has s = true := by
  intro s
  have h : M10.S.has = toldHas (toldHas (toldHas (fun _ => false) happE) eB) eC := by
    have e1 : doF M0.S happE = 0 := by decide +kernel
    have e2 : doF M2.S eB = 0 := by decide +kernel
    have e3 : doF M3.S eC = 0 := by decide +kernel
    rw [M10_S]
    have s1 : M1.S.has = toldHas (fun _ => false) happE := by
      show (doSF M0.sec M0.S happE).has = _
      rw [doSF_yes e1]; rfl
    have s3 : M3.S.has = toldHas M2.S.has eB := by
      show (doSF M2.sec M2.S eB).has = _
      rw [doSF_yes e2]
    show (doSF M3.sec M3.S eC).has = _
    rw [doSF_yes e3]
    show toldHas M3.S.has eC = _
    rw [s3, M2_S, s1]
  rw [h, List.mem_singleton]
  unfold toldHas
  by_cases hb : txt s = txt (⟨#[98, 111, 98]⟩ : ByteArray)
  · have : s = ⟨#[98, 111, 98]⟩ := txt_inj hb
    subst this
    exact ⟨fun _ => by decide +kernel, fun _ => rfl⟩
  · have h1 : s ≠ eB.subject := fun e => hb (by rw [e]; rfl)
    refine ⟨fun e => absurd e hb, fun e => ?_⟩
    by_cases ha : s = eC.subject
    · subst ha
      exact absurd e (by decide +kernel)
    · rw [updS_other _ _ ha, updS_other _ _ h1, updS_other _ _ (show s ≠ happE.subject from ha)] at e
      cases e
theorem step12 : lineA M10 ⟨#[115, 117, 98, 106, 101, 99, 116, 115]⟩ = (⟨#[115, 117, 98, 106, 101, 99, 116, 115, 32, 98, 111, 98]⟩, M10) := by
  rw [line_is (D := subjectsD) (k := ⟨#[115, 117, 98, 106, 101, 99, 116, 115]⟩) (ws := []) (by decide +kernel) rfl]
  have h : subsL M10.S.has = [txt (⟨#[98, 111, 98]⟩ : ByteArray)] := by
    rw [subsL_eq (by simp) has_bob]
    simp [sortT]
  unfold subjectsD
  rw [if_pos (show ([] : List ByteArray).length = 0 from rfl), h]
  refine Prod.ext (?_ : jnT (⟨#[115, 117, 98, 106, 101, 99, 116, 115]⟩ :: [txt (⟨#[98, 111, 98]⟩ : ByteArray)].map mkT) = _) rfl
  decide +kernel
theorem step13 : lineA M10 ⟨#[120]⟩ = (⟨#[101, 114, 114, 111, 114, 32, 51]⟩, M10) := by
  rw [line_no (k := ⟨#[120]⟩) (ws := []) (by decide +kernel) rfl]
  refine Prod.ext (?_ : errS 3 = _) rfl
  decide +kernel
theorem lines_asked : linesB (trimT ⟨#[112, 117, 116, 32, 97, 110, 110, 32, 109, 97, 105, 108, 32, 98, 111, 120, 32, 97, 32, 98, 10, 114, 101, 97, 100, 32, 120, 32, 57, 10, 112, 117, 116, 32, 98, 111, 98, 32, 109, 97, 105, 108, 32, 98, 97, 103, 32, 99, 10, 103, 111, 110, 101, 32, 97, 110, 110, 10, 114, 101, 97, 100, 32, 120, 32, 57, 10, 114, 101, 97, 100, 32, 121, 32, 57, 10, 114, 111, 119, 115, 32, 120, 10, 114, 111, 119, 115, 32, 121, 10, 108, 111, 115, 116, 32, 120, 10, 108, 111, 115, 116, 32, 121, 10, 99, 101, 108, 108, 115, 10, 115, 117, 98, 106, 101, 99, 116, 115, 10, 120, 10]⟩) = linesQ := by decide +kernel
theorem sess_asked : sessB ⟨#[112, 117, 116, 32, 97, 110, 110, 32, 109, 97, 105, 108, 32, 98, 111, 120, 32, 97, 32, 98, 10, 114, 101, 97, 100, 32, 120, 32, 57, 10, 112, 117, 116, 32, 98, 111, 98, 32, 109, 97, 105, 108, 32, 98, 97, 103, 32, 99, 10, 103, 111, 110, 101, 32, 97, 110, 110, 10, 114, 101, 97, 100, 32, 120, 32, 57, 10, 114, 101, 97, 100, 32, 121, 32, 57, 10, 114, 111, 119, 115, 32, 120, 10, 114, 111, 119, 115, 32, 121, 10, 108, 111, 115, 116, 32, 120, 10, 108, 111, 115, 116, 32, 121, 10, 99, 101, 108, 108, 115, 10, 115, 117, 98, 106, 101, 99, 116, 115, 10, 120, 10]⟩ = ⟨#[112, 117, 116, 32, 49, 32, 49, 32, 51, 54, 10, 114, 101, 97, 100, 32, 49, 10, 112, 117, 116, 32, 50, 32, 49, 32, 51, 52, 10, 103, 111, 110, 101, 32, 51, 32, 48, 32, 56, 10, 114, 101, 97, 100, 32, 51, 10, 114, 101, 97, 100, 32, 51, 10, 114, 111, 119, 115, 32, 109, 97, 105, 108, 46, 98, 97, 103, 58, 98, 111, 98, 61, 99, 10, 114, 111, 119, 115, 32, 109, 97, 105, 108, 46, 98, 97, 103, 58, 98, 111, 98, 61, 99, 10, 108, 111, 115, 116, 32, 48, 10, 108, 111, 115, 116, 32, 49, 10, 99, 101, 108, 108, 115, 32, 109, 97, 105, 108, 46, 98, 97, 103, 58, 98, 111, 98, 61, 99, 10, 115, 117, 98, 106, 101, 99, 116, 115, 32, 98, 111, 98, 10, 101, 114, 114, 111, 114, 32, 51, 10]⟩ := by
  unfold sessB
  rw [lines_asked]
  unfold sessP linesQ
  simp only [List.foldl_cons, List.foldl_nil]
  unfold sessF
  dsimp only
  rw [show newM ⟨#[]⟩ = M0 from rfl]
  simp only [step1, step2, step3, step4, step5, step6, step7, step8, step9, step10, step11, step12, step13]
  decide +kernel
end Go.Proofs.YtnkmckdefiblhaaGreatDoor
namespace Go.Proofs.YtnkmckdefiblhaaGreatDoor
open Go.RowKit Go.Shelf

set_option maxRecDepth 100000 in
set_option maxHeartbeats 8000000 in
theorem deskPieces_any (a b : ByteArray) (w : World) (hG : GlobD w none0) : Calls Tryz.prog 3 #[.string a, .string b] w (Res true w) := by
  have G := Lib.hid hG
  have G' := fun w' (hx : ∃ x, w' = ext w x) => (hG.ext hx : GlobD w' none0)
  have SA := session_any ⟨#[112, 117, 116, 32, 97, 110, 110, 32, 109, 97, 105, 108, 32, 98, 111, 120, 32, 97, 32, 98, 10, 114, 101, 97, 100, 32, 120, 32, 57, 10, 112, 117, 116, 32, 98, 111, 98, 32, 109, 97, 105, 108, 32, 98, 97, 103, 32, 99, 10, 103, 111, 110, 101, 32, 97, 110, 110, 10, 114, 101, 97, 100, 32, 120, 32, 57, 10, 114, 101, 97, 100, 32, 121, 32, 57, 10, 114, 111, 119, 115, 32, 120, 10, 114, 111, 119, 115, 32, 121, 10, 108, 111, 115, 116, 32, 120, 10, 108, 111, 115, 116, 32, 121, 10, 99, 101, 108, 108, 115, 10, 115, 117, 98, 106, 101, 99, 116, 115, 10, 120, 10]⟩ w hG (by decide)
  rw [sess_asked] at SA
  obtain ⟨hp1, hp2⟩ := pieces_prefix a b
  have SX := fun w' hx hs => session_any (a ++ (⟨#[10]⟩ : ByteArray)) w' (G' w' hx) hs
  have SY := fun w' hx hs => session_any (a ++ (⟨#[10]⟩ : ByteArray) ++ b) w' (G' w' hx) hs
  generalize sessB (a ++ (⟨#[10]⟩ : ByteArray)) = x at *
  generalize sessB (a ++ (⟨#[10]⟩ : ByteArray) ++ b) = y at *
  have hq : (x.toList == x.toList) = true := by simp
  replace SX := Lib.hid SX
  replace SY := Lib.hid SY
  clear hG G'
  by_cases h1 : (2500 : Int) < a.size
  · have d1 : decide ((2500 : Int) < a.size) = true := decide_eq_true h1
    go_enter Tryz.func3, Tryz.ntmps3
    go_wp2_with fail
    go_ret
    exact ⟨rfl, ext_refl _⟩
  · have d1 : decide ((2500 : Int) < a.size) = false := decide_eq_false h1
    by_cases h2 : (2500 : Int) < b.size
    · have d2 : decide ((2500 : Int) < b.size) = true := decide_eq_true h2
      go_enter Tryz.func3, Tryz.ntmps3
      go_wp2_with fail
      go_ret
      exact ⟨rfl, ext_refl _⟩
    · have d2 : decide ((2500 : Int) < b.size) = false := decide_eq_false h2
      by_cases h3 : (2500 : Int) < (a.size : Int) + b.size
      · have d3 : decide ((2500 : Int) < (a.size : Int) + b.size) = true := decide_eq_true h3
        go_enter Tryz.func3, Tryz.ntmps3
        go_wp2_with fail
        go_ret
        exact ⟨rfl, ext_refl _⟩
      · have d3 : decide ((2500 : Int) < (a.size : Int) + b.size) = false := decide_eq_false h3
        have hs1 : (a ++ (⟨#[10]⟩ : ByteArray)).size ≤ 4000 := by rw [app_size]; have e : (⟨#[10]⟩ : ByteArray).size = 1 := rfl; omega
        have hs2 : (a ++ (⟨#[10]⟩ : ByteArray) ++ b).size ≤ 4000 := by rw [app_size, app_size]; have e : (⟨#[10]⟩ : ByteArray).size = 1 := rfl; omega
        replace SX := fun w' hx => SX.out w' hx hs1
        replace SY := fun w' hx => SY.out w' hx hs2
        clear hs1 hs2
        replace SX := Lib.hid SX
        replace SY := Lib.hid SY
        go_enter Tryz.func3, Tryz.ntmps3
        go_wp2_with fail
        refine SA.mono ?_
        rintro _ w1 ⟨rfl, hx⟩
        have X1 := Lib.hid hx
        clear hx SA
        go_wp2_with fail
        refine (SX.out w1 X1.out).mono ?_
        rintro _ w2 ⟨rfl, hx⟩
        have X2 := Lib.hid (ext_trans X1.out hx)
        clear hx
        go_wp2_with fail
        refine (SY.out w2 X2.out).mono ?_
        rintro _ w3 ⟨rfl, hx⟩
        have X3 := Lib.hid (ext_trans X2.out hx)
        clear hx
        go_wp2_with fail
        go_ret
        exact ⟨by simp, X3.out⟩
end Go.Proofs.YtnkmckdefiblhaaGreatDoor
namespace Go.Proofs.YtnkmckdefiblhaaGreatDoor
open Go.RowKit

theorem own : ownKnob Tryz.prog.godebug = none := by kernel_rfl
theorem gRounds : Tryz.prog.globalNamed "oubliette/sum.rounds" = some 0 := by kernel_rfl
theorem tRounds : (Tryz.prog.globals[0]?).map (·.type) = some 122 := by kernel_rfl
def roundsZ : List Int := roundsL.map fun n : Nat => (n : Int)
theorem rounds_data : (Rows.laid_oubliette_sum_rounds : DataW Unit) = Lib.tabData .u32 roundsZ := rfl
theorem rounds_at : (List.range 64).all (fun i => roundsZ.getD i 0 == val (K256 i)) = true := by decide +kernel
/-- The table stands first on the list. -/
theorem Rounds_of_laid {rest : List (String × DataW Unit)} {W : World} (h : laidMet Tryz.prog (("oubliette/sum.rounds", Rows.laid_oubliette_sum_rounds) :: rest) W) : Rounds W := by
  rw [rounds_data] at h
  have hT := Lib.tabIs_of_head gRounds tRounds Tryz.underlying122 Tryz.underlying92 (by kernel_rfl) (by kernel_rfl) h
  have hc : ∀ i, i < 64 → W.cell? ⟨0, i, none⟩ = some (.int .u32 (val (K256 i))) := fun i hi => by
    have h1 := hT.cell gRounds i (by simpa [roundsZ, roundsL] using hi)
    have h2 := List.all_eq_true.1 rounds_at i (List.mem_range.2 hi)
    rw [h1, eq_of_beq h2]
  exact ⟨block_lt_of_cell (hc 0 (by omega)), hc⟩

theorem rtypeT : (Tryz.prog.cutTypes.find? (·.1 == "internal/reflectlite.rtype")).map (·.2) = some 173 := by kernel_rfl
theorem gErr : Tryz.prog.globalNamed "errors.errorType" = some 1 := by kernel_rfl
theorem errRow : ((List.range 307).filter fun t => Tryz.prog.rowNamed t [101, 114, 114, 111, 114]) = [43] := by kernel_rfl
theorem typesSize : Tryz.prog.types.size = 307 := by kernel_rfl
/-- The handle of the type error. -/
theorem ErrT_of_met {W : World} (h : handlesMet Tryz.prog [("errors.errorType", Rows.laid_errors_errorType)] W) : ErrT W := by
  obtain ⟨name, u, ty, e1, e2, e3, e4, e5⟩ := h _ (List.mem_singleton.2 rfl)
  have en : name = [101, 114, 114, 111, 114] := (Option.some.inj e1).symm
  subst en
  obtain rfl := Option.some.inj (rtypeT.symm.trans e2)
  have hm : ty ∈ (List.range 307).filter fun t => Tryz.prog.rowNamed t [101, 114, 114, 111, 114] := List.mem_filter.2 ⟨List.mem_range.2 (by rw [← typesSize]; exact e3), e4⟩
  rw [errRow] at hm
  obtain rfl := List.mem_singleton.1 hm
  have hh : typeHandle Tryz.prog 43 = rt 43 := by kernel_rfl
  rw [hh] at e5
  have := World.var?_cell gErr e5 0
  simpa [ErrT] using this
end Go.Proofs.YtnkmckdefiblhaaGreatDoor
namespace Go.Proofs.YtnkmckdefiblhaaGreatDoor
open Go.RowKit

theorem gSyn : Tryz.prog.globalNamed "strconv.ErrSyntax" = some 9 := by kernel_rfl
theorem gRng : Tryz.prog.globalNamed "strconv.ErrRange" = some 10 := by kernel_rfl
theorem tSyn : (Tryz.prog.globals[9]?).map (·.type) = some 43 := by kernel_rfl
theorem tRng : (Tryz.prog.globals[10]?).map (·.type) = some 43 := by kernel_rfl
theorem iface_of_laid {P : Program} {n nm : String} {d : DataW Unit} {r : List (String × DataW Unit)} {W : World} {g : Nat} {ti : TypeId} {ms : Array (String × TypeId)}
    (h : laidMet P ((n, .iface nm d) :: r) W) (hg : P.globalNamed n = some g) (ht : (P.globals[g]?).map (·.type) = some ti) (hi : P.underlying ti = some (.interface ms)) :
    ∃ te pe, W.cell? ⟨g, 0, none⟩ = some (.iface te pe) := by
  obtain ⟨ps, ⟨g', t', cs, fuel, p, q, hg', ht', hvar, hd, _, _⟩, _⟩ := h
  obtain rfl := Option.some.inj (hg.symm.trans hg')
  obtain rfl := Option.some.inj (ht.symm.trans ht')
  obtain ⟨_, u, v, hcs, _, _⟩ := iface_of_trod hi hd
  have h1 := World.var?_cell hg hvar 0
  obtain rfl : cs = #[.iface u v] := by rw [← Array.toArray_toList (xs := cs), hcs]
  exact ⟨u, v, h1⟩
theorem SynV_of_laid {r : List (String × DataW Unit)} {W : World} (h : laidMet Tryz.prog (("strconv.ErrSyntax", Rows.laid_strconv_ErrSyntax) :: r) W) : SynV W :=
  iface_of_laid h gSyn tSyn Tryz.underlying43
theorem RngV_of_laid {r : List (String × DataW Unit)} {W : World} (h : laidMet Tryz.prog (("strconv.ErrRange", Rows.laid_strconv_ErrRange) :: r) W) : RngV W :=
  iface_of_laid h gRng tRng Tryz.underlying43
theorem gPow : Tryz.prog.globalNamed "internal/strconv.uint64pow10" = some 5 := by kernel_rfl
theorem tPow : (Tryz.prog.globals[5]?).map (·.type) = some 189 := by kernel_rfl
theorem pow_data : (Rows.laid_internal_strconv_uint64pow10 : DataW Unit) = Lib.tabData .u64 Lib.pow10Tab := rfl
theorem PowV_of_laid {r : List (String × DataW Unit)} {W : World} (h : laidMet Tryz.prog (("internal/strconv.uint64pow10", Rows.laid_internal_strconv_uint64pow10) :: r) W) : PowV W ∧ 5 < W.heap.size := by
  rw [pow_data] at h
  have hT := Lib.tabIs_of_head gPow tPow Tryz.underlying189 Tryz.underlying91 (by kernel_rfl) (by kernel_rfl) h
  exact ⟨hT, block_lt_of_cell (hT.cell gPow 0 (by decide))⟩
end Go.Proofs.YtnkmckdefiblhaaGreatDoor
