/- oubliettekeep.EventBack (the walk). · What a source holds, and what happens to it: plain words. -/
import Derived.Test.YtnkmckdefiblhaaGreatDoorProg
import Derived.Test.YtnkmckdefiblhaaGreatDoorG13
import Derived.Test.YtnkmckdefiblhaaGreatDoorG10
import Derived.Test.YtnkmckdefiblhaaGreatDoorG11
import Derived.Test.YtnkmckdefiblhaaGreatDoorG1
namespace Go.Proofs.YtnkmckdefiblhaaGreatDoor
open Go.RowKit

def zeroE : Ev := ⟨0, ⟨#[]⟩, ⟨#[]⟩, ⟨#[]⟩, ⟨#[]⟩⟩
instance (s : List UInt8) : Decidable (parses okV s) := by unfold parses; exact inferInstance
/-- What event.Parse answers. -/
def parseE (s : ByteArray) : Ev := if parses okV (txt s) then readL (pieces (txt s)) else zeroE
def parseX (s : ByteArray) : Value := if parses okV (txt s) then .nilIface else errV 3
theorem kindOf_cases (l : List UInt8) : kindOf l = 0 ∨ kindOf l = 1 ∨ kindOf l = 2 ∨ kindOf l = 3 := by
  unfold kindOf
  by_cases h1 : l = [112, 117, 116]
  · rw [if_pos h1]; exact .inr (.inl rfl)
  · rw [if_neg h1]
    by_cases h2 : l = [100, 101, 108]
    · rw [if_pos h2]; exact .inr (.inr (.inl rfl))
    · rw [if_neg h2]
      by_cases h3 : l = [103, 111, 110, 101]
      · rw [if_pos h3]; exact .inr (.inr (.inr rfl))
      · rw [if_neg h3]; exact .inl rfl
def ParsePost (s : ByteArray) (w : World) (r : Ending) (w' : World) : Prop := r = .returned (.tuple #[.agg (evV (parseE s)), parseX s]) ∧ ∃ x, w' = ext w x
theorem parse_no {s : ByteArray} {w : World} {r : Ending} {w' : World} (hn : ¬ parses okV (txt s)) (h : r = .returned (.tuple #[.agg #[.int .i64 0, .string ⟨#[]⟩, .string ⟨#[]⟩, .string ⟨#[]⟩, .string ⟨#[]⟩], errV 3]) ∧ ∃ x, w' = ext w x) : ParsePost s w r w' := by
  unfold ParsePost parseE parseX
  rw [if_neg hn, if_neg hn]; exact h
theorem parse_yes {s : ByteArray} {w : World} {r : Ending} {w' : World} {E : Ev} (hr : readL (pieces (txt s)) = E) {B : Bool} (hp : parses okV (txt s) ↔ B = true)
    (h : r = .returned (if B = true then .tuple #[.agg (evV E), .nilIface] else .tuple #[.agg #[.int .i64 0, .string ⟨#[]⟩, .string ⟨#[]⟩, .string ⟨#[]⟩, .string ⟨#[]⟩], errV 3]) ∧ ∃ x, w' = ext w x) : ParsePost s w r w' := by
  unfold ParsePost parseE parseX
  by_cases hB : B = true
  · rw [if_pos (hp.2 hB), if_pos (hp.2 hB), hr]; rw [if_pos hB] at h; exact h
  · rw [if_neg (fun h => hB (hp.1 h)), if_neg (fun h => hB (hp.1 h))]; rw [if_neg hB] at h; exact h
theorem list5 {α : Type} {l : List α} (h : l.length = 5) : ∃ a b c d e, l = [a, b, c, d, e] := by
  match l, h with
  | [a, b, c, d, e], _ => exact ⟨a, b, c, d, e, rfl⟩
theorem list4 {α : Type} {l : List α} (h : l.length = 4) : ∃ a b c d, l = [a, b, c, d] := by
  match l, h with
  | [a, b, c, d], _ => exact ⟨a, b, c, d, rfl⟩
theorem list2 {α : Type} {l : List α} (h : l.length = 2) : ∃ a b, l = [a, b] := by
  match l, h with
  | [a, b], _ => exact ⟨a, b, rfl⟩
theorem parse_any (s : ByteArray) (w : World) (hs : s.size ≤ 1048576) (hM : MaxL w) (hW : WordsV w) :
    Calls Tryz.prog 90 #[.string s] w (ParsePost s w) := by
  have hp := piecesB_is s
  have h0 := piecesB_pos s
  have hl : (pieces (txt s)).length = (piecesB s).length := by rw [← hp, List.length_map]
  have hg : (pieces (txt s)).getD 0 [] = txt ((piecesB s)[0]'h0) := by
    rw [← hp, List.getD_eq_getElem?_getD, List.getElem?_map, List.getElem?_eq_getElem h0]; rfl
  have hno : ∀ k : Int, kindOf (txt ((piecesB s)[0]'h0)) = k → (piecesB s).length ≠ manyOf k → ¬ parses okV (txt s) := by
    intro k hk hm h
    rw [parses, hg, hk, hl] at h
    exact hm h.1
  rcases kindOf_cases (txt ((piecesB s)[0]'h0)) with hk | hk | hk | hk
  · exact (parse_none s w hs hM hW _ rfl h0 hk).mono fun _ _ h => parse_no (hno 0 hk (show (piecesB s).length ≠ 0 by omega)) h
  · by_cases hm : (piecesB s).length = 5
    · obtain ⟨x0, x1, x2, x3, x4, e⟩ := list5 hm
      have hk' : kindOf (txt x0) = 1 := by rw [← hk]; simp only [e]; rfl
      have hps : pieces (txt s) = [txt x0, txt x1, txt x2, txt x3, txt x4] := by rw [← hp, e]; rfl
      have hr : readL (pieces (txt s)) = ⟨1, x1, x2, x3, x4⟩ := by rw [hps]; simp [readL, hk', mkT_txt]
      refine (parse_put s w hs hM hW x0 x1 x2 x3 x4 e hk' _ rfl).mono fun _ _ h => parse_yes hr ?_ h
      unfold parses
      rw [hr, hps]
      simp [hk', manyOf]
    · exact (parse_put_many s w hs hM hW _ rfl h0 hk hm).mono fun _ _ h => parse_no (hno 1 hk hm) h
  · by_cases hm : (piecesB s).length = 4
    · obtain ⟨x0, x1, x2, x3, e⟩ := list4 hm
      have hk' : kindOf (txt x0) = 2 := by rw [← hk]; simp only [e]; rfl
      have hps : pieces (txt s) = [txt x0, txt x1, txt x2, txt x3] := by rw [← hp, e]; rfl
      have hr : readL (pieces (txt s)) = ⟨2, x1, x2, x3, ⟨#[]⟩⟩ := by rw [hps]; simp [readL, hk', mkT_txt]; rfl
      refine (parse_del s w hs hM hW x0 x1 x2 x3 e hk' _ rfl).mono fun _ _ h => parse_yes hr ?_ h
      unfold parses
      rw [hr, hps]
      simp [hk', manyOf]
    · exact (parse_del_many s w hs hM hW _ rfl h0 hk hm).mono fun _ _ h => parse_no (hno 2 hk hm) h
  · by_cases hm : (piecesB s).length = 2
    · obtain ⟨x0, x1, e⟩ := list2 hm
      have hk' : kindOf (txt x0) = 3 := by rw [← hk]; simp only [e]; rfl
      have hps : pieces (txt s) = [txt x0, txt x1] := by rw [← hp, e]; rfl
      have hr : readL (pieces (txt s)) = ⟨3, x1, ⟨#[]⟩, ⟨#[]⟩, ⟨#[]⟩⟩ := by rw [hps]; simp [readL, hk', mkT_txt]; rfl
      refine (parse_gone s w hs hM hW x0 x1 e hk' _ rfl).mono fun _ _ h => parse_yes hr ?_ h
      unfold parses
      rw [hr, hps]
      simp [hk', manyOf]
    · exact (parse_gone_many s w hs hM hW _ rfl h0 hk hm).mono fun _ _ h => parse_no (hno 3 hk hm) h

/-! ### A fact -/
def happE : Ev := ⟨1, ⟨#[97, 110, 110]⟩, ⟨#[109, 97, 105, 108]⟩, ⟨#[98, 111, 120]⟩, ⟨#[97, 32, 98]⟩⟩
def happS : ByteArray := ⟨#[112, 117, 116, 32, 97, 110, 110, 32, 109, 97, 105, 108, 32, 98, 111, 120, 32, 97, 32, 98]⟩
theorem happ_right : rightE okV happE = true := by decide +kernel
/-! ### EventBack -/
theorem print_sizes {ok : List UInt8 → Bool} {e : Ev} (h : rightE ok e = true) : e.subject.size + e.table.size + e.row.size + e.value.size ≤ (printL e).length := by
  have hk := kind_cases h
  have hl : ∀ x : ByteArray, (txt x).length = x.size := fun x => by unfold txt; rw [Array.length_toList]; rfl
  obtain ⟨k, s, t, r, v⟩ := e
  unfold rightE at h
  rw [Bool.and_eq_true] at h
  have h := h.2
  dsimp only at *
  rcases hk with rfl | rfl | rfl
  · show _ ≤ (wordL 1 ++ 32 :: txt s ++ (32 :: txt t ++ 32 :: txt r ++ 32 :: txt v)).length
    simp only [List.length_append, List.length_cons, hl]; omega
  · rw [if_neg (show ¬ ((2 : Int) = 1) by decide), if_pos rfl] at h
    simp only [Bool.and_eq_true, decide_eq_true_eq] at h
    show _ ≤ (wordL 2 ++ 32 :: txt s ++ (32 :: txt t ++ 32 :: txt r)).length
    simp only [List.length_append, List.length_cons, hl]; omega
  · rw [if_neg (show ¬ ((3 : Int) = 1) by decide), if_neg (show ¬ ((3 : Int) = 2) by decide), if_pos rfl] at h
    simp only [Bool.and_eq_true, decide_eq_true_eq] at h
    show _ ≤ (wordL 3 ++ 32 :: txt s ++ []).length
    simp only [List.length_append, List.length_cons, hl]; omega
theorem parse_good (s : ByteArray) (h : parses okV (txt s)) : ∃ E : Ev, parseE s = E ∧ parseX s = .nilIface ∧ rightE okV E = true ∧ printL E = txt s :=
  ⟨readL (pieces (txt s)), by unfold parseE; rw [if_pos h], by unfold parseX; rw [if_pos h], h.2, print_read h⟩
theorem parse_of_print (e : Ev) (h : rightE okV e = true) : parseE ⟨(printL e).toArray⟩ = e ∧ parseX ⟨(printL e).toArray⟩ = .nilIface := by
  have hp := read_print h
  have ht : txt (⟨(printL e).toArray⟩ : ByteArray) = printL e := rfl
  unfold parseE parseX
  rw [ht, if_pos hp.1, if_pos hp.1]
  exact ⟨hp.2, rfl⟩

end Go.Proofs.YtnkmckdefiblhaaGreatDoor
namespace Go.Proofs.YtnkmckdefiblhaaGreatDoor

/-! ### Texts, keys, marks -/
def keyS (sec s : ByteArray) (n : Nat) : ByteArray := (keyT sec s (n : Int)).1
theorem keyS_size (sec s : ByteArray) (n : Nat) : (keyS sec s n).size = 32 := by
  show (keyB sec s n).toArray.size = 32
  rw [List.size_toArray]; unfold keyB; rw [sumB_length]
def noneS : ByteArray := ⟨#[0, 0, 0, 0, 0, 0, 0, 0, 0, 0, 0, 0, 0, 0, 0, 0]⟩
def headR (L : List Rec) : ByteArray := match L.getLast? with | none => noneS | some r => mkS (mkB r)
def nonceR (r : Rec) : ByteArray := mkS (numB r.seq ++ [102, 101, 101, 100])
def withR (r : Rec) : ByteArray := mkS (markB 97 [seqS r.seq, r.subject, seqS r.gen, r.prev])
theorem nonceR_size (r : Rec) : (nonceR r).size = 12 := by
  unfold nonceR
  rw [mkS_size, List.length_append]
  have : (numB r.seq).length = 8 := numTo_length _ _
  simp [this]
theorem markB_length (k : UInt8) (ps : List ByteArray) : (markB k ps).length = 16 := by unfold markB; rw [List.length_take, sumB_length]; omega
theorem withR_size (r : Rec) : (withR r).size = 16 := by unfold withR; rw [mkS_size, markB_length]
theorem headR_size (L : List Rec) : (headR L).size = 16 := by
  unfold headR
  split
  · rfl
  · rw [mkS_size, mkB_length]
theorem headR_snoc (L : List Rec) (r : Rec) : headR (L ++ [r]) = mkS (mkB r) := by unfold headR; rw [List.getLast?_concat]
theorem headR_nil : headR [] = noneS := rfl
/-! ### A source -/
structure SrcM where
  many : ByteArray → Nat
  has : ByteArray → Bool
  L : List Rec
  T : List Cell
def updS {α : Type} (f : ByteArray → α) (k : ByteArray) (x : α) : ByteArray → α := fun s => if txt s = txt k then x else f s
theorem updS_same {α : Type} (f : ByteArray → α) (k : ByteArray) (x : α) : updS f k x k = x := if_pos rfl
theorem updS_other {α : Type} (f : ByteArray → α) {k s : ByteArray} (x : α) (h : s ≠ k) : updS f k x s = f s := if_neg (fun e => h (txt_inj e))
def S0 : SrcM := ⟨fun _ => 0, fun _ => false, [], []⟩
/-- The number of a subject's key, when it is made. -/
def makeN (many : ByteArray → Nat) (has : ByteArray → Bool) (s : ByteArray) : Nat := if has s = true then many s else many s + 1
/-- What is told of an event. -/
def putR (many : ByteArray → Nat) (has : ByteArray → Bool) (L : List Rec) (e : Ev) : Rec :=
  ⟨(L.length : Int) + 1, e.subject, (makeN many has e.subject : Int), headR L, ⟨#[]⟩⟩
def toldR (sec : ByteArray) (many : ByteArray → Nat) (has : ByteArray → Bool) (L : List Rec) (e : Ev) : Rec :=
  if e.kind = 3 then ⟨(L.length : Int) + 1, e.subject, 0, headR L, mkT (printL e)⟩
  else { putR many has L e with body := mkS (sealB (keyS sec e.subject (makeN many has e.subject)) (nonceR (putR many has L e)) (withR (putR many has L e)) (mkT (printL e))) }
def tellX (has : ByteArray → Bool) (e : Ev) : Int := if rightE okV e = false then 1 else if e.kind = 3 ∧ has e.subject = false then 8 else 0
def toldMany (many : ByteArray → Nat) (has : ByteArray → Bool) (e : Ev) : ByteArray → Nat := if e.kind = 3 then many else updS many e.subject (makeN many has e.subject)
def toldHas (has : ByteArray → Bool) (e : Ev) : ByteArray → Bool := updS has e.subject (decide (e.kind ≠ 3))
def doX (S : SrcM) (e : Ev) : Int :=
  if e.kind = 1 ∧ (findT (ek e) S.T).isSome = true ∧ txt ((findT (ek e) S.T).getD zeroC).subject ≠ txt e.subject then 13
  else if e.kind = 2 ∧ ¬ ((findT (ek e) S.T).isSome = true ∧ txt ((findT (ek e) S.T).getD zeroC).subject = txt e.subject) then 7
  else tellX S.has e
def doS (sec : ByteArray) (S : SrcM) (e : Ev) : SrcM :=
  if doX S e = 0 then ⟨toldMany S.many S.has e, toldHas S.has e, S.L ++ [toldR sec S.many S.has S.L e], stepT e S.T⟩ else S
/-- Whether a record is one that was told of an event. -/
structure isTold (sec : ByteArray) (r : Rec) (e : Ev) : Prop where
  subj : r.subject = e.subject
  right : rightE okV e = true
  prev : r.prev.size = 16
  gone : e.kind = 3 → r.gen = 0 ∧ r.body = mkT (printL e)
  kept : e.kind ≠ 3 → 1 ≤ r.gen ∧ r.body = mkS (sealB (keyS sec e.subject r.gen.toNat) (nonceR r) (withR r) (mkT (printL e)))
theorem isTold.name {sec : ByteArray} {r : Rec} {e : Ev} (h : isTold sec r e) : nameB (txt r.subject) = true := by
  have := h.right
  unfold rightE at this
  rw [Bool.and_eq_true] at this
  rw [h.subj]; exact this.1
theorem isTold.gen0 {sec : ByteArray} {r : Rec} {e : Ev} (h : isTold sec r e) : 0 ≤ r.gen := by
  by_cases hk : e.kind = 3
  · rw [(h.gone hk).1]; decide
  · have := (h.kept hk).1; omega
theorem isTold.gen_iff {sec : ByteArray} {r : Rec} {e : Ev} (h : isTold sec r e) : r.gen = 0 ↔ e.kind = 3 := by
  constructor
  · intro h0
    by_cases hk : e.kind = 3
    · exact hk
    · have := (h.kept hk).1; omega
  · intro hk; exact (h.gone hk).1
theorem print_short {e : Ev} (h : rightE okV e = true) : (printL e).length ≤ 70 ∧ 1 ≤ e.subject.size ∧ e.subject.size ≤ 10 := by
  have hn := h
  unfold rightE at hn
  rw [Bool.and_eq_true] at hn
  have hs := nameB_size hn.1
  have hl : ∀ x : ByteArray, (txt x).length = x.size := fun x => by unfold txt; rw [Array.length_toList]; rfl
  have hw : (wordL e.kind).length ≤ 4 := by unfold wordL; split <;> (try split) <;> (try split) <;> simp
  refine ⟨?_, hs.1, hs.2⟩
  unfold printL
  have h2 := hn.2
  by_cases k1 : e.kind = 1
  · rw [if_pos k1] at h2 ⊢
    simp only [Bool.and_eq_true, decide_eq_true_eq] at h2
    have ht := nameB_size h2.1.1.1
    have hr := nameB_size h2.1.1.2
    have hv := h2.1.2
    simp only [List.length_append, List.length_cons, hl]; omega
  · rw [if_neg k1] at h2 ⊢
    by_cases k2 : e.kind = 2
    · rw [if_pos k2] at h2 ⊢
      simp only [Bool.and_eq_true, decide_eq_true_eq] at h2
      have ht := nameB_size h2.1.1
      have hr := nameB_size h2.1.2
      simp only [List.length_append, List.length_cons, hl]; omega
    · rw [if_neg k2]
      simp only [List.length_append, List.length_cons, List.length_nil, hl]; omega
theorem isTold.body {sec : ByteArray} {r : Rec} {e : Ev} (h : isTold sec r e) : r.body.size ≤ 86 := by
  have hp := (print_short h.right).1
  by_cases hk : e.kind = 3
  · rw [(h.gone hk).2]
    show (printL e).toArray.size ≤ 86
    rw [List.size_toArray]; omega
  · rw [(h.kept hk).2, mkS_size, sealB_length]
    have : (mkT (printL e)).size = (printL e).length := by show (printL e).toArray.size = _; rw [List.size_toArray]
    omega
theorem isTold.small {sec : ByteArray} {r : Rec} {e : Ev} (h : isTold sec r e) : r.subject.size ≤ 10 ∧ r.prev.size = 16 ∧ r.body.size ≤ 86 :=
  ⟨by rw [h.subj]; exact (print_short h.right).2.2, h.prev, h.body⟩
theorem toldR_is (sec : ByteArray) (many : ByteArray → Nat) (has : ByteArray → Bool) (L : List Rec) {e : Ev} (hr : rightE okV e = true) (hm : has e.subject = true → 1 ≤ many e.subject) : isTold sec (toldR sec many has L e) e := by
  unfold toldR
  by_cases hk : e.kind = 3
  · rw [if_pos hk]
    exact ⟨rfl, hr, headR_size L, fun _ => ⟨rfl, rfl⟩, fun h => absurd hk h⟩
  · rw [if_neg hk]
    refine ⟨rfl, hr, headR_size L, fun h => absurd h hk, fun _ => ⟨?_, rfl⟩⟩
    show (1 : Int) ≤ (makeN many has e.subject : Nat)
    unfold makeN
    cases hh : has e.subject with
    | true => have := hm hh; rw [if_pos rfl]; omega
    | false => rw [if_neg (by simp)]; omega
/-- A record whose key is no more. -/
def lostR (many : ByteArray → Nat) (has : ByteArray → Bool) (r : Rec) : Bool := decide (r.gen ≠ 0) && (decide (r.gen < (many r.subject : Nat)) || !has r.subject)
/-- What feed.Open answers of a record that was told. -/
def openV (many : ByteArray → Nat) (has : ByteArray → Bool) (r : Rec) (e : Ev) : Value := .tuple #[.agg (evV (if lostR many has r = true then zeroE else e)), if lostR many has r = true then errV 8 else .nilIface]
end Go.Proofs.YtnkmckdefiblhaaGreatDoor
