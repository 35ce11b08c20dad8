/- The last one is true: plain lemmas. No program. · oubliettekeep.few, TableLast's closures (the walks). -/
import Derived.Test.YtgckpfeeioljeaaGreatDoorG1
import Derived.Test.YtgckpfeeioljeaaGreatDoorProg
import Derived.Test.YtgckpfeeioljeaaGreatDoorG22
namespace Go.Proofs.YtgckpfeeioljeaaGreatDoor

section
variable (ok : List UInt8 → Bool)
def foldT (l : List Ev) (T : List Cell) : List Cell := l.foldl (fun T e => applyT ok e T) T
theorem foldT_append (l m : List Ev) (T : List Cell) : foldT ok (l ++ m) T = foldT ok m (foldT ok l T) := List.foldl_append
theorem once_foldT : ∀ (l : List Ev) {T : List Cell}, Once T → Once (foldT ok l T)
  | [], _, h => h
  | e :: l, _, h => once_foldT l (h.apply ok e)
/-- What may take that row away. -/
def hitsE (e : Ev) (c : Cell) : Bool :=
  rightE ok e && ((decide (e.kind = 1) && decide (ek e = ck c)) || (decide (txt e.subject = txt c.subject) && (decide (e.kind = 3) || (decide (e.kind = 2) && decide (ek e = ck c)))))
theorem keep_apply {e : Ev} {c : Cell} {T : List Cell} (ho : Once T) (hc : c ∈ T) (h : hitsE ok e c = false) : c ∈ applyT ok e T := by
  unfold applyT
  cases hr : rightE ok e with
  | false => simpa using hc
  | true =>
    rw [if_pos rfl]
    unfold hitsE at h
    rw [hr, Bool.true_and, Bool.or_eq_false_iff] at h
    obtain ⟨h1, h2⟩ := h
    unfold stepT
    by_cases k1 : e.kind = 1
    · rw [if_pos k1]
      have hk : ¬ ek e = ck c := by simpa [k1] using h1
      refine List.mem_cons_of_mem _ (List.mem_filter.2 ⟨hc, ?_⟩)
      simp only [Bool.not_eq_true', decide_eq_false_iff_not]
      exact fun e' => hk (e'.symm)
    · rw [if_neg k1]
      by_cases k2 : e.kind = 2
      · rw [if_pos k2]
        split
        · rename_i hs
          refine List.mem_filter.2 ⟨hc, ?_⟩
          simp only [Bool.not_eq_true', decide_eq_false_iff_not]
          intro hk
          rw [← hk, find_some ho hc] at hs
          simp only [Option.getD_some] at hs
          simp [k2, hs, hk] at h2
        · exact hc
      · rw [if_neg k2]
        have h3 := kind_cases hr
        have k3 : e.kind = 3 := by rcases h3 with h3 | h3 | h3
                                   · exact absurd h3 k1
                                   · exact absurd h3 k2
                                   · exact h3
        refine List.mem_filter.2 ⟨hc, ?_⟩
        simp only [Bool.not_eq_true', decide_eq_false_iff_not]
        intro hs
        simp [k3, hs] at h2
theorem keep_fold : ∀ (l : List Ev) {c : Cell} {T : List Cell}, Once T → c ∈ T → (l.any fun e => hitsE ok e c) = false → c ∈ foldT ok l T
  | [], _, _, _, hc, _ => hc
  | e :: l, c, T, ho, hc, h => by
    rw [List.any_cons, Bool.or_eq_false_iff] at h
    exact keep_fold l (ho.apply ok e) (keep_apply ok ho hc h.1) h.2
theorem put_in {e : Ev} {T : List Cell} (hr : rightE ok e = true) (hk : e.kind = 1) : cellE e ∈ applyT ok e T := by
  unfold applyT stepT
  rw [if_pos hr, if_pos hk]
  exact List.mem_cons_self
/-- No row is a subject's. -/
def freeOf (s : List UInt8) (T : List Cell) : Prop := ∀ c ∈ T, txt c.subject ≠ s
theorem gone_free {e : Ev} {T : List Cell} (hr : rightE ok e = true) (hk : e.kind = 3) : freeOf (txt e.subject) (applyT ok e T) := by
  unfold applyT stepT
  rw [if_pos hr, if_neg (by rw [hk]; decide), if_neg (by rw [hk]; decide)]
  intro c hc
  have := (List.mem_filter.1 hc).2
  simpa using this
theorem free_apply {e : Ev} {s : List UInt8} {T : List Cell} (h : freeOf s T) (hp : (decide (e.kind = 1) && decide (txt e.subject = s)) = false) : freeOf s (applyT ok e T) := by
  unfold applyT
  split
  · unfold stepT
    split
    · rename_i k1
      have hs : txt e.subject ≠ s := by simpa [k1] using hp
      intro c hc
      rcases List.mem_cons.1 hc with rfl | hc
      · exact hs
      · exact h c (List.mem_filter.1 hc).1
    · split
      · split
        · exact fun c hc => h c (List.mem_filter.1 hc).1
        · exact h
      · exact fun c hc => h c (List.mem_filter.1 hc).1
  · exact h
theorem free_fold : ∀ (l : List Ev) {s : List UInt8} {T : List Cell}, freeOf s T → (l.any fun e => decide (e.kind = 1) && decide (txt e.subject = s)) = false → freeOf s (foldT ok l T)
  | [], _, _, h, _ => h
  | e :: l, s, T, h, hp => by
    rw [List.any_cons, Bool.or_eq_false_iff] at hp
    exact free_fold l (free_apply ok h hp.1) hp.2
theorem gone_fold : ∀ (l : List Ev) {s : List UInt8} {T : List Cell}, (l.any fun e => decide (e.kind = 3) && decide (txt e.subject = s) && rightE ok e) = true → (l.any fun e => decide (e.kind = 1) && decide (txt e.subject = s)) = false → freeOf s (foldT ok l T)
  | [], _, _, h, _ => by simp at h
  | e :: l, s, T, h, hp => by
    rw [List.any_cons, Bool.or_eq_false_iff] at hp
    rw [List.any_cons, Bool.or_eq_true] at h
    rcases h with h | h
    · simp only [Bool.and_eq_true, decide_eq_true_eq] at h
      obtain ⟨⟨h1, h2⟩, h3⟩ := h
      have := gone_free ok (T := T) h3 h1
      rw [h2] at this
      exact free_fold ok l this hp.2
    · exact gone_fold l h hp.2
/-- What is last is there. -/
theorem last_there {l m : List Ev} {e : Ev} (hr : rightE ok e = true) (hk : e.kind = 1) (h : (m.any fun x => hitsE ok x (cellE e)) = false) : cellE e ∈ foldT ok (l ++ e :: m) [] := by
  rw [foldT_append]
  exact keep_fold ok m ((once_foldT ok l List.Pairwise.nil).apply ok e) (put_in ok hr hk) h
theorem last_gone {l m : List Ev} {e : Ev} {s : List UInt8} (h : (m.any fun x => decide (x.kind = 3) && decide (txt x.subject = s) && rightE ok x) = true) (hp : (m.any fun x => decide (x.kind = 1) && decide (txt x.subject = s)) = false) : freeOf s (foldT ok (l ++ e :: m) []) := by
  rw [foldT_append]
  exact gone_fold ok m h hp
end
end Go.Proofs.YtgckpfeeioljeaaGreatDoor
namespace Go.Proofs.YtgckpfeeioljeaaGreatDoor
open Go.RowKit Go.Shelf Go.Lib

def longE (e : Ev) : Bool := decide ((40 : Int) < e.subject.size) || decide ((40 : Int) < e.table.size) || decide ((40 : Int) < e.row.size) || decide ((60 : Int) < e.value.size)
def fewB (l : List Ev) : Bool := decide ((l.length : Int) ≤ 30) && !l.any longE
set_option maxRecDepth 100000 in
theorem few1_any (e : Ev) (w : World) : Calls Tryz.prog 41 #[.agg (evV e)] w (Res (longE e) w) := by
  obtain ⟨k, s, t, r, v⟩ := e
  unfold evV longE
  dsimp only
  go_enter Tryz.func41, Tryz.ntmps41
  cases h0 : decide ((40 : Int) < s.size) <;> cases h1 : decide ((40 : Int) < t.size) <;> cases h2 : decide ((40 : Int) < r.size) <;> cases h3 : decide ((60 : Int) < v.size) <;> (go_wp2_with fail; go_ret; exact ⟨rfl, ext_alloc _ (ext_refl w)⟩)
set_option maxRecDepth 100000 in
theorem few_any (q : Option Addr) (cp : Nat) (l : List Ev) (w : World) (hl : l.length ≤ 9223372036854775807) (he : evsAt w q l) : Calls Tryz.prog 8 #[.slice q l.length cp] w (Res (fewB l) w) := by
  have AN := anyE_any (α := Ev) id longE 41 #[] (enters_of Tryz.func41 (by kernel_rfl) rfl) q cp l w (fun W x hb => (few1_any x W).mono fun e w' ⟨h1, h2⟩ => ⟨h1, hb.trans ((ext_iff.1 h2).mono hb.size)⟩) (by omega) (by rw [List.map_id]; exact he)
  unfold fewB
  generalize l.any longE = a at AN ⊢
  generalize l.length = n at AN ⊢
  clear he
  go_enter Tryz.func8, Tryz.ntmps8
  cases h0 : decide ((n : Int) ≤ 30) with
  | false =>
    go_wp2_with fail
    go_ret
    exact ⟨by simp, ext_refl w⟩
  | true =>
    go_wp2_with fail
    refine AN.mono ?_
    rintro _ w2 ⟨rfl, hx⟩
    have X2 := Lib.hid hx
    clear hx AN
    go_wp2_with fail
    go_ret
    exact ⟨by simp, X2.out⟩
end Go.Proofs.YtgckpfeeioljeaaGreatDoor
