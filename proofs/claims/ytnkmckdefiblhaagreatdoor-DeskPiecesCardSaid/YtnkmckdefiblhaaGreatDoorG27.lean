/- The desk: what a line is answered. Plain words. · desk.does: a map of sixteen method values, and a look-up (the walk). -/
import Derived.Test.YtnkmckdefiblhaaGreatDoorG17
import Derived.Test.YtnkmckdefiblhaaGreatDoorG25
import Derived.Test.YtnkmckdefiblhaaGreatDoorG26
import Derived.Test.YtnkmckdefiblhaaGreatDoorG6
import Derived.Test.YtnkmckdefiblhaaGreatDoorG7
import Derived.Lib.FieldsP
import Derived.Lib.Join
import Derived.Lib.Replace
import Derived.Test.YtnkmckdefiblhaaGreatDoorProg
import Derived.Test.YtnkmckdefiblhaaGreatDoorG5
import Derived.Test.YtnkmckdefiblhaaGreatDoorG9
namespace Go.Proofs.YtnkmckdefiblhaaGreatDoor

/-! ### Pairs by their names -/
theorem put_look {α : Type} (k : ByteArray) (x : α) (M : List (ByteArray × α)) : findS k (putS k x M) = some x := by unfold findS putS; simp
theorem put_look_other {α : Type} {s k : ByteArray} (h : k ≠ s) (x : α) (M : List (ByteArray × α)) : findS k (putS s x M) = findS k M := by
  have ht : txt s ≠ txt k := fun e => h (txt_inj e).symm
  have h1 : findS k (putS s x M) = findS k (delS s M) := by
    unfold findS putS
    rw [List.find?_cons_of_neg (by simpa using ht)]
  rw [h1]
  clear h1
  unfold findS delS
  congr 1
  induction M with
  | nil => rfl
  | cons p M ih =>
    by_cases h1 : txt p.1 = txt s
    · rw [List.filter_cons_of_neg (by simp [h1]), ih, List.find?_cons_of_neg (by simp [h1]; exact ht)]
    · rw [List.filter_cons_of_pos (by simp [h1])]
      by_cases h2 : txt p.1 = txt k
      · rw [List.find?_cons_of_pos (by simp [h2]), List.find?_cons_of_pos (by simp [h2])]
      · rw [List.find?_cons_of_neg (by simp [h2]), List.find?_cons_of_neg (by simp [h2]), ih]
/-! ### The desk -/
structure SvM where
  seq : Nat
  mark : ByteArray
  rows : List Cell
  lost : Nat
def SV0 : SvM := ⟨0, ⟨#[]⟩, [], 0⟩
def svOf (R : RdM) : SvM := ⟨R.seq, R.mark, sortC R.T, R.lost⟩
def rdOf (k : SvM) : RdM := ⟨k.seq, k.mark, putAll k.rows [], k.lost⟩
structure DkM where
  sec : ByteArray
  S : SrcM
  ok : List Ev
  rd : ByteArray → Option RdM
  k : SvM
inductive Ans where
  | ok (s : ByteArray)
  | er (n : Int)
def bl1 : ByteArray := ⟨#[32]⟩
def jnT (ws : List ByteArray) : ByteArray := ⟨(Lib.join (ws.map (·.data.toList)) [32]).toArray⟩
def wd0 (ws : List ByteArray) : ByteArray := ws.getD 0 ⟨#[]⟩
def wd1 (ws : List ByteArray) : ByteArray := ws.getD 1 ⟨#[]⟩
def hexT (l : List UInt8) : ByteArray := ⟨(hexB l).toArray⟩
def newM (x : ByteArray) : DkM := ⟨mkS (markB 100 [x]), S0, [], fun _ => none, SV0⟩
def freshA (M : DkM) (ws : List ByteArray) : Ans × DkM := if ws.length = 1 then (.ok ⟨#[110, 101, 119]⟩, newM (wd0 ws)) else (.er 3, M)
def doT (name : ByteArray) (r : Rec) : ByteArray := name ++ bl1 ++ itoaT r.seq ++ bl1 ++ itoaT r.gen ++ bl1 ++ itoaT (r.body.size : Nat)
def didM (M : DkM) (e : Ev) : DkM := { M with S := doSF M.sec M.S e, ok := M.ok ++ [e] }
def doE (name : ByteArray) (M : DkM) (e : Ev) : Ans × DkM :=
  if doF M.S e = 0 then (.ok (doT name (toldR M.sec M.S.many M.S.has M.S.L e)), didM M e) else (.er (doF M.S e), M)
open Classical in
noncomputable def doA (name : ByteArray) (M : DkM) (ws : List ByteArray) : Ans × DkM :=
  if parses okV (txt (name ++ bl1 ++ jnT ws)) then doE name M (parseE (name ++ bl1 ++ jnT ws)) else (.er 3, M)
def putN : ByteArray := ⟨#[112, 117, 116]⟩
def delN : ByteArray := ⟨#[100, 101, 108]⟩
def goneN : ByteArray := ⟨#[103, 111, 110, 101]⟩
/-- A row as it is told. -/
def repT (s : ByteArray) : ByteArray := ⟨(Lib.replaceAll s.data.toList [32] [95]).toArray⟩
def rowT (c : Cell) : ByteArray := bl1 ++ c.table ++ ⟨#[46]⟩ ++ c.row ++ ⟨#[58]⟩ ++ c.subject ++ ⟨#[61]⟩ ++ repT c.value
def toldT (name : ByteArray) (l : List Cell) : ByteArray := l.foldl (fun s c => s ++ rowT c) name
def cellsN : ByteArray := ⟨#[99, 101, 108, 108, 115]⟩
def rowsN : ByteArray := ⟨#[114, 111, 119, 115]⟩
def cellsD (M : DkM) (ws : List ByteArray) : Ans × DkM := if ws.length = 0 then (.ok (toldT cellsN (sortC M.S.T)), M) else (.er 3, M)
def getR (M : DkM) (s : ByteArray) : RdM := (M.rd s).getD RD0
def setR (M : DkM) (s : ByteArray) (R : RdM) : DkM := { M with rd := updS M.rd s (some R) }
/-- A reader behind k records, of which those up to n are read. -/
def readOne (n : Int) (many : ByteArray → Nat) (has : ByteArray → Bool) (R : RdM) (p : Rec × Ev) : RdM := if p.1.seq ≤ n ∧ (R.seq : Int) < p.1.seq then readM many has R p.1 p.2 else R
def readN (n : Int) (S : SrcM) (ok : List Ev) (R : RdM) (k : Nat) : RdM := ((S.L.zip ok).take k).foldl (readOne n S.many S.has) R
theorem readN_succ {n : Int} {S : SrcM} {ok : List Ev} {R : RdM} {k : Nat} {r : Rec} {e : Ev} (h1 : S.L[k]? = some r) (h2 : ok[k]? = some e) : readN n S ok R (k + 1) = readOne n S.many S.has (readN n S ok R k) (r, e) := by
  unfold readN
  have : (S.L.zip ok)[k]? = some (r, e) := by rw [List.getElem?_zip_eq_some]; exact ⟨h1, h2⟩
  rw [List.take_add_one, this, Option.toList_some, List.foldl_append]; rfl
def readD (M : DkM) (ws : List ByteArray) : Ans × DkM :=
  if ws.length = 2 then
    match numR (wd1 ws) with
    | none => (.er 3, M)
    | some n => (.ok (⟨#[114, 101, 97, 100, 32]⟩ ++ itoaT ((readN n M.S M.ok (getR M (wd0 ws)) M.S.L.length).seq : Nat)), setR M (wd0 ws) (readN n M.S M.ok (getR M (wd0 ws)) M.S.L.length))
  else (.er 3, M)
def rowsD (M : DkM) (ws : List ByteArray) : Ans × DkM := if ws.length = 1 then (.ok (toldT rowsN (sortC (getR M (wd0 ws)).T)), setR M (wd0 ws) (getR M (wd0 ws))) else (.er 3, M)
def lostD (M : DkM) (ws : List ByteArray) : Ans × DkM := if ws.length = 1 then (.ok (⟨#[108, 111, 115, 116, 32]⟩ ++ itoaT ((getR M (wd0 ws)).lost : Nat)), setR M (wd0 ws) (getR M (wd0 ws))) else (.er 3, M)
def saveD (M : DkM) (ws : List ByteArray) : Ans × DkM :=
  if ws.length = 1 then (.ok (⟨#[115, 97, 118, 101, 32]⟩ ++ itoaT ((getR M (wd0 ws)).seq : Nat)), { setR M (wd0 ws) (getR M (wd0 ws)) with k := svOf (getR M (wd0 ws)) }) else (.er 3, M)
def loadD (M : DkM) (ws : List ByteArray) : Ans × DkM :=
  if ws.length = 1 then
    if M.k.mark.size = 16 then (.ok (⟨#[108, 111, 97, 100, 32]⟩ ++ itoaT (M.k.seq : Nat)), setR M (wd0 ws) (rdOf M.k)) else (.er 1, M)
  else (.er 3, M)
def feedOne (r : Rec) : ByteArray := bl1 ++ hexT ((writeL mkB r).take 4)
def feedT (L : List Rec) : ByteArray := L.foldl (fun s r => s ++ feedOne r) ⟨#[102, 101, 101, 100]⟩
def feedD (M : DkM) (ws : List ByteArray) : Ans × DkM := if ws.length = 0 then (.ok (feedT M.S.L), M) else (.er 3, M)
def wireD (M : DkM) (ws : List ByteArray) : Ans × DkM :=
  if ws.length = 1 then
    match numR (wd0 ws) with
    | none => (.er 3, M)
    | some n => if 1 ≤ n ∧ n ≤ M.S.L.length then (.ok (⟨#[119, 105, 114, 101, 32]⟩ ++ hexT (writeL mkB (M.S.L.getD (n - 1).toNat zeroR))), M) else (.er 7, M)
  else (.er 3, M)
/-- All that have a key, rising. -/
def sortT (ss : List (List UInt8)) : List (List UInt8) := ss.mergeSort (fun x y => decide (x ≤ y))
open Classical in
noncomputable def subsL (has : ByteArray → Bool) : List (List UInt8) := if h : ∃ ss : List (List UInt8), ss.Nodup ∧ ∀ s, txt s ∈ ss ↔ has s = true then sortT h.choose else []
theorem sortT_perm {a b : List (List UInt8)} (h : a.Perm b) : sortT a = sortT b := by
  have hle : ∀ x y z : List UInt8, decide (x ≤ y) = true → decide (y ≤ z) = true → decide (x ≤ z) = true := fun x y z h1 h2 => decide_eq_true (List.le_trans (of_decide_eq_true h1) (of_decide_eq_true h2))
  have htot : ∀ x y : List UInt8, (decide (x ≤ y) || decide (y ≤ x)) = true := fun x y => by
    rcases List.le_total x y with h | h <;> simp [h]
  refine List.Perm.eq_of_pairwise (le := fun x y => decide (x ≤ y) = true) (fun x y _ _ h1 h2 => List.le_antisymm (of_decide_eq_true h1) (of_decide_eq_true h2)) (List.pairwise_mergeSort hle htot a) (List.pairwise_mergeSort hle htot b) ?_
  exact ((List.mergeSort_perm a _).trans h).trans (List.mergeSort_perm b _).symm
theorem subsL_eq {has : ByteArray → Bool} {ss : List (List UInt8)} (h1 : ss.Nodup) (h2 : ∀ s, txt s ∈ ss ↔ has s = true) : subsL has = sortT ss := by
  have h : ∃ ss : List (List UInt8), ss.Nodup ∧ ∀ s, txt s ∈ ss ↔ has s = true := ⟨ss, h1, h2⟩
  unfold subsL
  rw [dif_pos h]
  refine sortT_perm ((List.perm_ext_iff_of_nodup h.choose_spec.1 h1).2 fun l => ?_)
  have := (h.choose_spec.2 (mkT l)).trans (h2 (mkT l)).symm
  rwa [txt_mkT] at this
noncomputable def subjectsD (M : DkM) (ws : List ByteArray) : Ans × DkM :=
  if ws.length = 0 then (.ok (jnT (⟨#[115, 117, 98, 106, 101, 99, 116, 115]⟩ :: (subsL M.S.has).map mkT)), M) else (.er 3, M)
def zerosT : ByteArray := ⟨#[48, 48, 48, 48, 48, 48, 48, 48, 48, 48, 48, 48]⟩
def blockD (M : DkM) (ws : List ByteArray) : Ans × DkM :=
  if ws.length = 2 then
    match numR (wd1 ws) with
    | none => (.er 3, M)
    | some n => if 0 ≤ n ∧ n < 4294967296 then (.ok (⟨#[98, 108, 111, 99, 107, 32]⟩ ++ hexT (block (sumB (wd0 ws).data.toList) n.toNat zerosT.data.toList)), M) else (.er 1, M)
  else (.er 3, M)
def sumD (M : DkM) (ws : List ByteArray) : Ans × DkM := (.ok (⟨#[115, 117, 109, 32]⟩ ++ hexT (sumB (jnT ws).data.toList)), M)
def helpT : ByteArray := ⟨#[98, 108, 111, 99, 107, 32, 99, 101, 108, 108, 115, 32, 100, 101, 108, 32, 102, 101, 101, 100, 32, 103, 111, 110, 101, 32, 104, 101, 108, 112, 32, 108, 111, 97, 100, 32, 108, 111, 115, 116, 32, 110, 101, 119, 32, 112, 117, 116, 32, 114, 101, 97, 100, 32, 114, 111, 119, 115, 32, 115, 97, 118, 101, 32, 115, 117, 98, 106, 101, 99, 116, 115, 32, 115, 117, 109, 32, 119, 105, 114, 101]⟩
def helpD (M : DkM) (ws : List ByteArray) : Ans × DkM := if ws.length = 0 then (.ok helpT, M) else (.er 3, M)
abbrev Cmd := DkM → List ByteArray → Ans × DkM
noncomputable def cmdL : List (ByteArray × Cmd) := [(⟨#[119, 105, 114, 101]⟩, wireD), (⟨#[115, 117, 109]⟩, sumD), (⟨#[115, 117, 98, 106, 101, 99, 116, 115]⟩, subjectsD), (⟨#[115, 97, 118, 101]⟩, saveD), (⟨#[114, 111, 119, 115]⟩, rowsD), (⟨#[114, 101, 97, 100]⟩, readD), (⟨#[112, 117, 116]⟩, doA putN), (⟨#[110, 101, 119]⟩, freshA), (⟨#[108, 111, 115, 116]⟩, lostD), (⟨#[108, 111, 97, 100]⟩, loadD), (⟨#[104, 101, 108, 112]⟩, helpD), (⟨#[103, 111, 110, 101]⟩, doA goneN), (⟨#[102, 101, 101, 100]⟩, feedD), (⟨#[100, 101, 108]⟩, doA delN), (⟨#[99, 101, 108, 108, 115]⟩, cellsD), (⟨#[98, 108, 111, 99, 107]⟩, blockD)]
noncomputable def cmdA (w : ByteArray) (M : DkM) (ws : List ByteArray) : Ans × DkM := match findS w cmdL with
  | none => (.er 3, M)
  | some f => f M ws
def ansT : Ans → ByteArray
  | .ok s => s
  | .er n => errS n
def blank (c : Nat) : Bool := c == 32
noncomputable def lineA (M : DkM) (s : ByteArray) : ByteArray × DkM := match Lib.goFieldsP blank s with
  | [] => (⟨#[111, 107]⟩, M)
  | w :: ws => (ansT (cmdA w M ws).1, (cmdA w M ws).2)
/-! ### What holds of a desk -/
structure RdOk (L : List Rec) (R : RdM) : Prop where
  sq : R.seq ≤ L.length
  mark : R.mark = headR (L.take R.seq)
  right : ∀ c ∈ R.T, rightE okV ⟨1, c.subject, c.table, c.row, c.value⟩ = true
  lost : R.lost ≤ R.seq
  once : Once R.T
  few : R.T.length ≤ R.seq
structure SvOk (L : List Rec) (k : SvM) : Prop where
  sq : k.seq ≤ L.length
  mark : k.mark = headR (L.take k.seq)
  right : ∀ c ∈ k.rows, rightE okV ⟨1, c.subject, c.table, c.row, c.value⟩ = true
  lost : k.lost ≤ k.seq
  asc : Asc k.rows
  few : k.rows.length ≤ k.seq
structure DkInv (M : DkM) : Prop where
  inv : Inv M.sec M.S M.ok
  len : M.S.L.length ≤ 100
  few : M.S.T.length ≤ M.S.L.length
  nm : ∀ s, M.S.has s = true → nameB s.data.toList = true
  told : ∀ s, M.S.has s = true → ∃ r ∈ M.S.L, r.subject = s
  rds : ∀ s R, M.rd s = some R → RdOk M.S.L R
  sv : M.k = SV0 ∨ SvOk M.S.L M.k
  sec : M.sec.size = 16
theorem RdOk.start (L : List Rec) : RdOk L RD0 := ⟨Nat.zero_le _, rfl, (fun _ h => by cases h), Nat.le_refl _, List.Pairwise.nil, Nat.le_refl _⟩
theorem RdOk.more {L : List Rec} {R : RdM} (h : RdOk L R) (r : Rec) : RdOk (L ++ [r]) R :=
  ⟨by have := h.sq; rw [List.length_append]; omega, by rw [List.take_append_of_le_length h.sq]; exact h.mark, h.right, h.lost, h.once, h.few⟩
theorem SvOk.more {L : List Rec} {k : SvM} (h : SvOk L k) (r : Rec) : SvOk (L ++ [r]) k :=
  ⟨by have := h.sq; rw [List.length_append]; omega, by rw [List.take_append_of_le_length h.sq]; exact h.mark, h.right, h.lost, h.asc, h.few⟩
theorem RdOk.save {L : List Rec} {R : RdM} (h : RdOk L R) : SvOk L (svOf R) :=
  ⟨h.sq, h.mark, fun c hc => h.right c ((sortC_perm R.T).mem_iff.1 hc), h.lost, sortC_asc h.once, by show (sortC R.T).length ≤ R.seq; rw [(sortC_perm R.T).length_eq]; exact h.few⟩
theorem SvOk.load {L : List Rec} {k : SvM} (h : SvOk L k) : RdOk L (rdOf k) := by
  have hp := putAll_perm k.rows h.asc.once
  exact ⟨h.sq, h.mark, fun c hc => h.right c (hp.mem_iff.1 hc), h.lost, h.asc.once.of_perm hp.symm, by show (putAll k.rows []).length ≤ k.seq; rw [hp.length_eq]; exact h.few⟩
theorem SvOk.mark16 {L : List Rec} {k : SvM} (h : SvOk L k) : k.mark.size = 16 := by rw [h.mark]; exact headR_size _
theorem DkInv.new (x : ByteArray) : DkInv (newM x) :=
  ⟨Inv.start _, Nat.zero_le _, Nat.le_refl _, (fun _ h => by cases h), (fun _ h => by cases h), (fun _ _ h => by cases h), .inl rfl, by show (mkS (markB 100 [x])).size = 16; rw [mkS_size, markB_length]⟩
theorem DkInv.did {M : DkM} (h : DkInv M) {e : Ev} (hx : doF M.S e = 0) : DkInv (didM M e) := by
  obtain ⟨hl, hd⟩ := doF_zero hx
  have hL : (didM M e).S.L = M.S.L ++ [toldR M.sec M.S.many M.S.has M.S.L e] := by show (doSF M.sec M.S e).L = _; rw [doSF_yes hx]
  have hl2 := h.len
  have hT : (didM M e).S.T = stepT e M.S.T := by show (doSF M.sec M.S e).T = _; rw [doSF_yes hx]
  have hh : (didM M e).S.has = toldHas M.S.has e := by show (doSF M.sec M.S e).has = _; rw [doSF_yes hx]
  refine ⟨?_, ?_, ?_, fun s hs => ?_, fun s hs => ?_, fun s R hR => ?_, ?_, h.sec⟩
  · show Inv M.sec (doSF M.sec M.S e) (M.ok ++ [e])
    rw [doSF_yes hx, ← doS_yes hd]; exact h.inv.step hd
  · rw [hL, List.length_append, List.length_singleton]; omega
  · have := stepT_len e M.S.T
    have := h.few
    rw [hT, hL, List.length_append, List.length_singleton]; omega
  · rw [hh] at hs
    unfold toldHas at hs
    by_cases e1 : s = e.subject
    · subst e1
      have hr := (tellX_right (doX_tell hd).1).1
      unfold rightE at hr
      rw [Bool.and_eq_true] at hr
      exact hr.1
    · rw [updS_other _ _ e1] at hs
      exact h.nm s hs
  · rw [hh] at hs
    unfold toldHas at hs
    rw [hL]
    by_cases e1 : s = e.subject
    · exact ⟨_, List.mem_append.2 (.inr (List.mem_singleton.2 rfl)), by rw [(toldR_fields M.sec M.S.many M.S.has M.S.L e).2.1, e1]⟩
    · rw [updS_other _ _ e1] at hs
      obtain ⟨r, h1, h2⟩ := h.told s hs
      exact ⟨r, List.mem_append.2 (.inl h1), h2⟩
  · rw [hL]; exact (h.rds s R hR).more _
  · rw [hL]; exact h.sv.imp id (fun hk => hk.more _)
theorem DkInv.set {M : DkM} (h : DkInv M) (s : ByteArray) {R : RdM} (hR : RdOk M.S.L R) : DkInv (setR M s R) := by
  refine ⟨h.inv, h.len, h.few, h.nm, h.told, fun t R' ht => ?_, h.sv, h.sec⟩
  by_cases he : t = s
  · subst he
    have : (setR M t R).rd t = some R := updS_same _ _ _
    rw [this] at ht; injection ht with ht; exact ht ▸ hR
  · have : (setR M s R).rd t = M.rd t := updS_other _ _ he
    rw [this] at ht; exact h.rds t R' ht
theorem DkInv.get {M : DkM} (h : DkInv M) (s : ByteArray) : RdOk M.S.L (getR M s) := by
  unfold getR
  cases hr : M.rd s with
  | none => exact RdOk.start _
  | some R => exact h.rds s R hr
theorem read_facts {M : DkM} (h : DkInv M) {n : Int} {R : RdM} (hR : RdOk M.S.L R) : ∀ k, k ≤ M.S.L.length → RdOk M.S.L (readN n M.S M.ok R k) ∧ ((k : Int) ≤ n → k ≤ (readN n M.S M.ok R k).seq) := by
  intro k
  induction k with
  | zero => intro _; exact ⟨hR, fun _ => Nat.zero_le _⟩
  | succ k ih =>
    intro hk
    obtain ⟨h1, h2⟩ := ih (by omega)
    have hk' : k < M.S.L.length := hk
    have hok : k < M.ok.length := by rw [← h.inv.len]; exact hk'
    have e1 := List.getElem?_eq_getElem hk'
    have e2 := List.getElem?_eq_getElem hok
    obtain ⟨ht, hq, hp, hg, _⟩ := h.inv.told k _ _ e1 e2
    rw [readN_succ e1 e2]
    generalize readN n M.S M.ok R k = U at h1 h2 ⊢
    unfold readOne
    dsimp only
    split
    · rename_i hc
      have hU : U.seq = k := by have := h2 (by omega); omega
      refine ⟨⟨?_, ?_, fun c hc' => ?_, ?_, ?_, ?_⟩, fun _ => ?_⟩
      · show U.seq + 1 ≤ _; omega
      · show mkS (mkB M.S.L[k]) = headR (M.S.L.take (U.seq + 1))
        rw [hU, List.take_add_one, e1, Option.toList_some, headR_snoc]
      · unfold readM at hc'
        dsimp only at hc'
        split at hc'
        · exact h1.right c hc'
        · rcases stepT_mem hc' with h3 | ⟨h3, rfl⟩
          · exact h1.right c h3
          · have := ht.right
            generalize M.ok[k] = e at this h3
            obtain ⟨k1, s1, t1, r1, v1⟩ := e
            dsimp only at h3
            subst h3
            exact this
      · show (readM M.S.many M.S.has U M.S.L[k] M.ok[k]).lost ≤ U.seq + 1
        have := h1.lost
        unfold readM
        dsimp only
        split <;> omega
      · exact readM_once h1.once _ _ _ _
      · show (readM M.S.many M.S.has U M.S.L[k] M.ok[k]).T.length ≤ U.seq + 1
        have := h1.few
        have := stepT_len M.ok[k] U.T
        unfold readM
        dsimp only
        split <;> omega
      · show k + 1 ≤ U.seq + 1; omega
    · rename_i hc
      refine ⟨h1, fun hn => ?_⟩
      by_cases h5 : (M.S.L[k]).seq ≤ n
      · have : ¬ (U.seq : Int) < (M.S.L[k]).seq := fun h6 => hc ⟨h5, h6⟩
        omega
      · omega
/-- A record that is to be read. -/
theorem read_next_facts {M : DkM} (h : DkInv M) {n : Int} {R : RdM} (hR : RdOk M.S.L R) {k : Nat} (hk : k < M.S.L.length) {r : Rec} {e : Ev} (e1 : M.S.L[k]? = some r) (e2 : M.ok[k]? = some e) (h1 : r.seq ≤ n) (h2 : ((readN n M.S M.ok R k).seq : Int) < r.seq) :
    isTold M.sec r e ∧ r.gen ≤ (M.S.many r.subject : Nat) ∧ r.seq = (readN n M.S M.ok R k).seq + 1 ∧ r.prev = (readN n M.S M.ok R k).mark := by
  obtain ⟨ht, hq, hp, hg, _⟩ := h.inv.told k _ _ e1 e2
  obtain ⟨h3, h4⟩ := read_facts h (n := n) hR k (by omega)
  have hU : (readN n M.S M.ok R k).seq = k := by have := h4 (by omega); omega
  exact ⟨ht, hg, by omega, by rw [hp, h3.mark, hU]⟩
theorem DkInv.cmd {M : DkM} (h : DkInv M) (w : ByteArray) (ws : List ByteArray) : DkInv (cmdA w M ws).2 := by
  unfold cmdA
  cases hf : findS w cmdL with
  | none => exact h
  | some f =>
    obtain ⟨p, hp, _, rfl⟩ := findS_mem hf
    dsimp only
    have hdo : ∀ name, DkInv (doA name M ws).2 := fun name => by
      unfold doA
      split
      · unfold doE
        split
        · rename_i hx; exact h.did hx
        · exact h
      · exact h
    unfold cmdL at hp
    simp only [List.mem_cons, List.not_mem_nil, or_false] at hp
    rcases hp with rfl | rfl | rfl | rfl | rfl | rfl | rfl | rfl | rfl | rfl | rfl | rfl | rfl | rfl | rfl | rfl <;> dsimp only
    · unfold wireD
      split
      · split
        · exact h
        · split <;> exact h
      · exact h
    · exact h
    · unfold subjectsD; split <;> exact h
    · unfold saveD
      split
      · have h1 := h.set (wd0 ws) (h.get (wd0 ws))
        exact ⟨h1.inv, h1.len, h1.few, h1.nm, h1.told, h1.rds, .inr (h.get (wd0 ws)).save, h1.sec⟩
      · exact h
    · unfold rowsD
      split
      · exact h.set _ (h.get _)
      · exact h
    · unfold readD
      split
      · split
        · exact h
        · exact h.set _ (read_facts h (h.get _) _ (Nat.le_refl _)).1
      · exact h
    · exact hdo _
    · unfold freshA
      split
      · exact DkInv.new _
      · exact h
    · unfold lostD
      split
      · exact h.set _ (h.get _)
      · exact h
    · unfold loadD
      split
      · split
        · rename_i hm
          rcases h.sv with h1 | h1
          · rw [h1] at hm; cases hm
          · exact h.set _ h1.load
        · exact h
      · exact h
    · unfold helpD; split <;> exact h
    · exact hdo _
    · unfold feedD; split <;> exact h
    · exact hdo _
    · unfold cellsD; split <;> exact h
    · unfold blockD
      split
      · split
        · exact h
        · split <;> exact h
      · exact h
theorem DkInv.line {M : DkM} (h : DkInv M) (s : ByteArray) : DkInv (lineA M s).2 := by
  unfold lineA
  split
  · exact h
  · exact h.cmd _ _
end Go.Proofs.YtnkmckdefiblhaaGreatDoor
namespace Go.Proofs.YtnkmckdefiblhaaGreatDoor
open Go.RowKit

/-- A method value of the desk in block db; none: nil. -/
def encF (db : Nat) : Option Nat → Value
  | none => .nilFunc
  | some f => .func (.func f) #[.pointer (some ⟨db, 0, none⟩)] #[]
def datF : Option Nat → DataW Unit
  | none => .lit (.int .i64 (-1))
  | some f => .lit (.int .i64 f)
theorem encF_inj (db : Nat) {x y : Option Nat} (h : encF db x = encF db y) : x = y := by
  cases x <;> cases y
  · rfl
  · cases h
  · cases h
  · unfold encF at h; injection h with h; injection h with h; rw [h]
open Classical in
noncomputable def RF (db : Nat) (v : Value) : Option (DataW Unit × List MemPlace) := if h : ∃ x, v = encF db x then some (datF h.choose, []) else none
theorem RF_enc (db : Nat) (x : Option Nat) : RF db (encF db x) = some (datF x, []) := by
  have h : ∃ y, encF db x = encF db y := ⟨x, rfl⟩
  unfold RF
  rw [dif_pos h, ← encF_inj db h.choose_spec]
theorem elemF (db : Nat) : ElemOf 32 (Option Nat) (encF db) datF (RF db) none where
  lay x := RF_enc db x
  inv v y h := by
    unfold RF at h
    split at h
    · rename_i hx
      injection h with h
      exact ⟨hx.choose, hx.choose_spec, h.symm⟩
    · cases h
  inj x y h := by
    cases x <;> cases y
    · rfl
    · injection h with h; injection h with _ h; omega
    · injection h with h; injection h with _ h; omega
    · injection h with h; injection h with _ h; rw [Int.ofNat_inj.1 h]
  zero w := by kernel_rfl
/-- What a line's first word does. -/
def cmds : List (ByteArray × Option Nat) := [(⟨#[119, 105, 114, 101]⟩, some 48), (⟨#[115, 117, 109]⟩, some 47), (⟨#[115, 117, 98, 106, 101, 99, 116, 115]⟩, some 46), (⟨#[115, 97, 118, 101]⟩, some 45), (⟨#[114, 111, 119, 115]⟩, some 44), (⟨#[114, 101, 97, 100]⟩, some 43), (⟨#[112, 117, 116]⟩, some 42), (⟨#[110, 101, 119]⟩, some 5), (⟨#[108, 111, 115, 116]⟩, some 41), (⟨#[108, 111, 97, 100]⟩, some 40), (⟨#[104, 101, 108, 112]⟩, some 39), (⟨#[103, 111, 110, 101]⟩, some 38), (⟨#[102, 101, 101, 100]⟩, some 37), (⟨#[100, 101, 108]⟩, some 36), (⟨#[99, 101, 108, 108, 115]⟩, some 35), (⟨#[98, 108, 111, 99, 107]⟩, some 34)]
theorem cmds_puts : (putS ⟨#[119, 105, 114, 101]⟩ (some 48) (putS ⟨#[115, 117, 109]⟩ (some 47) (putS ⟨#[115, 117, 98, 106, 101, 99, 116, 115]⟩ (some 46) (putS ⟨#[115, 97, 118, 101]⟩ (some 45) (putS ⟨#[114, 111, 119, 115]⟩ (some 44) (putS ⟨#[114, 101, 97, 100]⟩ (some 43) (putS ⟨#[112, 117, 116]⟩ (some 42) (putS ⟨#[110, 101, 119]⟩ (some 5) (putS ⟨#[108, 111, 115, 116]⟩ (some 41) (putS ⟨#[108, 111, 97, 100]⟩ (some 40) (putS ⟨#[104, 101, 108, 112]⟩ (some 39) (putS ⟨#[103, 111, 110, 101]⟩ (some 38) (putS ⟨#[102, 101, 101, 100]⟩ (some 37) (putS ⟨#[100, 101, 108]⟩ (some 36) (putS ⟨#[99, 101, 108, 108, 115]⟩ (some 35) (putS ⟨#[98, 108, 111, 99, 107]⟩ (some 34) ([])))))))))))))))) : List (ByteArray × Option Nat)) = cmds := by rfl
set_option maxRecDepth 100000 in
set_option maxHeartbeats 8000000 in
theorem does_any (db : Nat) (s : ByteArray) (w : World) (hs : s.size ≤ maxLen) :
    Calls Tryz.prog 22 #[.pointer (some ⟨db, 0, none⟩), .string s] w fun e w' => e = .returned (encF db ((findS s cmds).getD none)) ∧ ∃ x, w' = ext w x := by
  have hmf : ∀ (fn : Fn) (first cap : Array Value) (w : World), (Instr.makeFunc fn first cap).run Tryz.prog w = .ok (.func fn first cap) w := fun _ _ _ _ => rfl
  have hmk : ∀ w : World, (Instr.makeMap 83 none).run Tryz.prog w = .ok (.map (some w.heap.size)) (w.alloc (.map #[] 0)) := fun w => by simp [Instr.makeMap]
  have M0 : mapS datF (RF db) (w.alloc (.map #[] 0)) w.heap.size 0 [] := mapS.made w
  have B0 : Below w.heap.size w (w.alloc (.map #[] 0)) := ext_iff.1 (ext_alloc (.map #[] 0) (ext_refl w))
  obtain ⟨w1, h1, M1, g1⟩ := M0.put (elemF db) Tryz.underlying83 (k := ⟨#[98, 108, 111, 99, 107]⟩) (some 34) (by decide) (by decide)
  have B1 := B0.grown g1 B0.size (by rintro _ ⟨⟩; exact Nat.le_refl _)
  obtain ⟨w2, h2, M2, g2⟩ := M1.put (elemF db) Tryz.underlying83 (k := ⟨#[99, 101, 108, 108, 115]⟩) (some 35) (by decide) (by decide)
  have B2 := B1.grown g2 B1.size (by rintro _ ⟨⟩; exact Nat.le_refl _)
  obtain ⟨w3, h3, M3, g3⟩ := M2.put (elemF db) Tryz.underlying83 (k := ⟨#[100, 101, 108]⟩) (some 36) (by decide) (by decide)
  have B3 := B2.grown g3 B2.size (by rintro _ ⟨⟩; exact Nat.le_refl _)
  obtain ⟨w4, h4, M4, g4⟩ := M3.put (elemF db) Tryz.underlying83 (k := ⟨#[102, 101, 101, 100]⟩) (some 37) (by decide) (by decide)
  have B4 := B3.grown g4 B3.size (by rintro _ ⟨⟩; exact Nat.le_refl _)
  obtain ⟨w5, h5, M5, g5⟩ := M4.put (elemF db) Tryz.underlying83 (k := ⟨#[103, 111, 110, 101]⟩) (some 38) (by decide) (by decide)
  have B5 := B4.grown g5 B4.size (by rintro _ ⟨⟩; exact Nat.le_refl _)
  obtain ⟨w6, h6, M6, g6⟩ := M5.put (elemF db) Tryz.underlying83 (k := ⟨#[104, 101, 108, 112]⟩) (some 39) (by decide) (by decide)
  have B6 := B5.grown g6 B5.size (by rintro _ ⟨⟩; exact Nat.le_refl _)
  obtain ⟨w7, h7, M7, g7⟩ := M6.put (elemF db) Tryz.underlying83 (k := ⟨#[108, 111, 97, 100]⟩) (some 40) (by decide) (by decide)
  have B7 := B6.grown g7 B6.size (by rintro _ ⟨⟩; exact Nat.le_refl _)
  obtain ⟨w8, h8, M8, g8⟩ := M7.put (elemF db) Tryz.underlying83 (k := ⟨#[108, 111, 115, 116]⟩) (some 41) (by decide) (by decide)
  have B8 := B7.grown g8 B7.size (by rintro _ ⟨⟩; exact Nat.le_refl _)
  obtain ⟨w9, h9, M9, g9⟩ := M8.put (elemF db) Tryz.underlying83 (k := ⟨#[110, 101, 119]⟩) (some 5) (by decide) (by decide)
  have B9 := B8.grown g9 B8.size (by rintro _ ⟨⟩; exact Nat.le_refl _)
  obtain ⟨w10, h10, M10, g10⟩ := M9.put (elemF db) Tryz.underlying83 (k := ⟨#[112, 117, 116]⟩) (some 42) (by decide) (by decide)
  have B10 := B9.grown g10 B9.size (by rintro _ ⟨⟩; exact Nat.le_refl _)
  obtain ⟨w11, h11, M11, g11⟩ := M10.put (elemF db) Tryz.underlying83 (k := ⟨#[114, 101, 97, 100]⟩) (some 43) (by decide) (by decide)
  have B11 := B10.grown g11 B10.size (by rintro _ ⟨⟩; exact Nat.le_refl _)
  obtain ⟨w12, h12, M12, g12⟩ := M11.put (elemF db) Tryz.underlying83 (k := ⟨#[114, 111, 119, 115]⟩) (some 44) (by decide) (by decide)
  have B12 := B11.grown g12 B11.size (by rintro _ ⟨⟩; exact Nat.le_refl _)
  obtain ⟨w13, h13, M13, g13⟩ := M12.put (elemF db) Tryz.underlying83 (k := ⟨#[115, 97, 118, 101]⟩) (some 45) (by decide) (by decide)
  have B13 := B12.grown g13 B12.size (by rintro _ ⟨⟩; exact Nat.le_refl _)
  obtain ⟨w14, h14, M14, g14⟩ := M13.put (elemF db) Tryz.underlying83 (k := ⟨#[115, 117, 98, 106, 101, 99, 116, 115]⟩) (some 46) (by decide) (by decide)
  have B14 := B13.grown g14 B13.size (by rintro _ ⟨⟩; exact Nat.le_refl _)
  obtain ⟨w15, h15, M15, g15⟩ := M14.put (elemF db) Tryz.underlying83 (k := ⟨#[115, 117, 109]⟩) (some 47) (by decide) (by decide)
  have B15 := B14.grown g15 B14.size (by rintro _ ⟨⟩; exact Nat.le_refl _)
  obtain ⟨w16, h16, M16, g16⟩ := M15.put (elemF db) Tryz.underlying83 (k := ⟨#[119, 105, 114, 101]⟩) (some 48) (by decide) (by decide)
  have B16 := B15.grown g16 B15.size (by rintro _ ⟨⟩; exact Nat.le_refl _)
  have HL := M16.look (elemF db) Tryz.underlying83 hs
  rw [cmds_puts] at HL
  have X16 := Lib.hid (ext_of B16)
  clear M0 B0 M1 B1 M2 B2 M3 B3 M4 B4 M5 B5 M6 B6 M7 B7 M8 B8 M9 B9 M10 B10 M11 B11 M12 B12 M13 B13 M14 B14 M15 B15 M16 B16 g1 g2 g3 g4 g5 g6 g7 g8 g9 g10 g11 g12 g13 g14 g15 g16
  unfold encF at h1 h2 h3 h4 h5 h6 h7 h8 h9 h10 h11 h12 h13 h14 h15 h16
  dsimp only at h1 h2 h3 h4 h5 h6 h7 h8 h9 h10 h11 h12 h13 h14 h15 h16
  generalize encF db ((findS s cmds).getD none) = v at HL ⊢
  go_enter Tryz.func22, Tryz.ntmps22
  go_wp2_with fail
  go_ret
  exact ⟨rfl, X16.out⟩
end Go.Proofs.YtnkmckdefiblhaaGreatDoor
