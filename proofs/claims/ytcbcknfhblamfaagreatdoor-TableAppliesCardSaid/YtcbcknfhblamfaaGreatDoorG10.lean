/- sort.Slice as oublietteref.Table.Apply calls it: fewer than fifty rows are put in order. · The last one is true: plain lemmas. No program. -/
import Derived.Test.YtcbcknfhblamfaaGreatDoorProg
import Derived.Test.YtcbcknfhblamfaaGreatDoorG8
import Derived.Test.YtcbcknfhblamfaaGreatDoorG9
import Derived.Test.YtcbcknfhblamfaaGreatDoorShelfG
import Derived.Test.YtcbcknfhblamfaaGreatDoorCellL
namespace Go.Proofs.YtcbcknfhblamfaaGreatDoor
open Go.RowKit Go.Shelf Go.Sort Go.Lib

noncomputable def svT : TypeInfo := (Tryz.prog.info? 25).get (by kernel_rfl)
noncomputable def svE : TypeInfo := (Tryz.prog.info? 44).get (by kernel_rfl)
theorem svK (n : Nat) (h2 : 2 ≤ n) : Lib.swapperK n svE 25 = 9 := by
  have a : svE.hasPointers = true := by kernel_rfl
  have b : svE.bytes = 64 := by kernel_rfl
  have c : (n == 0) = false := by simp; omega
  have d : (n == 1) = false := by simp; omega
  simp [Lib.swapperK, a, b, c, d]
/-- The closures, in whatever world the sort passes through. -/
theorem srtC_of (gb jb N c : Nat) (w0 : World) (hN : N < 50) (hg : gb < w0.heap.size) (hj : w0.heap[jb]? = some (.cells #[.slice (some ⟨gb, 0, none⟩) N c] 25 (0, 0))) (hne : jb ≠ gb) :
    SrtC Tryz.prog ltC 17 47 #[.pointer (some ⟨jb, 0, none⟩)] #[.slice (some ⟨gb, 0, none⟩) N c, typeHandle Tryz.prog 44] w0 gb N where
  less d w h i j hi hi' hj1 hj' := by
    obtain ⟨i, rfl⟩ := Int.eq_ofNat_of_zero_le hi
    obtain ⟨j, rfl⟩ := Int.eq_ofNat_of_zero_le hj1
    exact clo_any i j gb jb N c d w h.n h.h (by omega) (by omega) (Nat.lt_of_lt_of_le hg h.k.size) ((h.k.block jb (lt_of_heap hj) (fun e => hne (by injection e))).trans hj)
  swap := swapSwapsK_of_literal false 47 (fun args W => run_callFunc_extern Tryz.func47 (by kernel_rfl) (by kernel_rfl) (by kernel_rfl) (e := Extern.ReflectliteSwapper.swap false) (by kernel_rfl) args W)
    44 svE (by kernel_rfl) cellVs 4 (fun _ => rfl) (by kernel_rfl) (fun _ => by kernel_rfl) (fun x v hv => by simp [cellVs] at hv; rcases hv with rfl | rfl | rfl | rfl <;> rfl) gb 0 N c
  enter := enters_of Tryz.func17 (by kernel_rfl) rfl
  lo := hg
  few := hN
theorem slice_any (gb jb N c : Nat) (d : Array Cell) (w : World) (hd : d.size = N) (h2 : 2 ≤ N) (hN : N < 50) (h : HoldsK cellVs 4 w gb 0 d) (hg : gb < w.heap.size) (hj : w.heap[jb]? = some (.cells #[.slice (some ⟨gb, 0, none⟩) N c] 25 (0, 0))) (hne : jb ≠ gb) :
    Calls Tryz.prog 16 #[.iface 25 (.slice (some ⟨gb, 0, none⟩) N c), .func (.func 17) #[] #[.pointer (some ⟨jb, 0, none⟩)]] w fun e w' =>
      e = .returned (.tuple #[]) ∧ ∃ d', PermIn 0 N d d' ∧ SortedIn ltC 0 N d' ∧ HoldsK cellVs 4 w' gb 0 d' ∧ w.grownBy w' (some gb) := by
  refine Any.sort_Slice_of_pdq Tryz.laysGg6 25 44 svT svE (by kernel_rfl) (by kernel_rfl) (by kernel_rfl) (by kernel_rfl) 25 (fun _ => by kernel_rfl) (some ⟨gb, 0, none⟩) N c (by omega) 47 (by rw [svK N h2]; kernel_rfl) _ _ _ _ _ ?_
  have hx : ∃ x, sliceWorld Tryz.prog Tryz.laysGg6_ren 25 (some ⟨gb, 0, none⟩) N c w = ext w x := by
    unfold sliceWorld
    exact ext_alloc _ (ext_alloc _ (ext_refl w))
  rw [show sliceBound Tryz.prog 44 svE 25 (some ⟨gb, 0, none⟩) N c = #[.slice (some ⟨gb, 0, none⟩) N c, typeHandle Tryz.prog 44] from (by unfold sliceBound; rw [svK N h2]; rfl)]
  generalize sliceWorld Tryz.prog Tryz.laysGg6_ren 25 (some ⟨gb, 0, none⟩) N c w = w1 at hx ⊢
  have hb := ext_iff.1 hx
  have hI : SrtI w1 gb N d w1 := ⟨hd, fun j hj => by
    have := h j hj
    have e := hb.block gb hg
    exact ⟨(World.cell?_of_block e).trans this.1, (World.frozen?_of_block e).trans this.2⟩, ⟨rfl, rfl, rfl, Nat.le_refl _, fun _ _ _ => rfl⟩⟩
  have C := srtC_of gb jb N c w1 hN (Nat.lt_of_lt_of_le hg hb.size) ((hb.block jb (lt_of_heap hj)).trans hj) hne
  have hl := Lib.bitLen_le N 62 (by omega) (by omega)
  refine (pdq_any (ρ := Tryz.laysGg6_ren) { Tryz.laysGg6 with } swo_ltC C (N + 1) 0 N (Lib.bitLen N) d w1 (by omega) (Nat.zero_le _) (Nat.le_refl _) (by omega) (Or.inl rfl) hI 0 N (Lib.bitLen N) rfl rfl rfl).mono ?_
  rintro _ w2 ⟨rfl, d', h1, h2, h3, h4⟩
  exact ⟨rfl, d', h1, h2, h3.h, (grown_more hx).trans h4⟩
theorem slice_tiny (p : Option Addr) (n c : Nat) (h1 : n ≤ 1) (lf : Fn) (la lb : Array Value) (w : World) :
    Calls Tryz.prog 16 #[.iface 25 (.slice p n c), .func lf la lb] w fun e w' => e = .returned (.tuple #[]) ∧ ∃ x, w' = ext w x := by
  have hK : Lib.swapperK n svE 25 = n + 1 := by
    rcases Nat.le_one_iff_eq_zero_or_eq_one.1 h1 with rfl | rfl <;> rfl
  rcases Nat.le_one_iff_eq_zero_or_eq_one.1 h1 with rfl | rfl
  · refine (Any.sort_Slice_tiny Tryz.laysGg6 25 44 svT svE (by kernel_rfl) (by kernel_rfl) (by kernel_rfl) (by kernel_rfl) 25 (fun _ => by kernel_rfl) p 0 c (by omega) 39 (by rw [hK]; kernel_rfl) lf la lb w).mono ?_
    rintro _ w2 ⟨rfl, os, rfl⟩
    exact ⟨rfl, ⟨os, w.drawn⟩, rfl⟩
  · refine (Any.sort_Slice_tiny Tryz.laysGg6 25 44 svT svE (by kernel_rfl) (by kernel_rfl) (by kernel_rfl) (by kernel_rfl) 25 (fun _ => by kernel_rfl) p 1 c (by omega) 40 (by rw [hK]; kernel_rfl) lf la lb w).mono ?_
    rintro _ w2 ⟨rfl, os, rfl⟩
    exact ⟨rfl, ⟨os, w.drawn⟩, rfl⟩
end Go.Proofs.YtcbcknfhblamfaaGreatDoor
namespace Go.Proofs.YtcbcknfhblamfaaGreatDoor

section
variable (ok : List UInt8 → Bool)
def foldT (l : List Ev) (T : List Cell) : List Cell := l.foldl (fun T e => applyT ok e T) T
theorem foldT_append (l m : List Ev) (T : List Cell) : foldT ok (l ++ m) T = foldT ok m (foldT ok l T) := List.foldl_append
theorem once_foldT : ∀ (l : List Ev) {T : List Cell}, Once T → Once (foldT ok l T)
  | [], _, h => h
  | e :: l, _, h => once_foldT l (h.apply ok e)
/-- What may take that row away. -/
def hitsE (e : Ev) (c : Cell) : Bool :=
  rightE ok e && ((decide (e.kind = 1) && decide (ek e = ck c)) || (decide (txt e.subject = txt c.subject) && (decide (e.kind = 3) || (decide (e.kind = 2) && decide (ek e = ck c)))))
theorem keep_apply {e : Ev} {c : Cell} {T : List Cell} (ho : Once T) (hc : c ∈ T) (h : hitsE ok e c = false) : c ∈ applyT ok e T := by
  unfold applyT
  cases hr : rightE ok e with
  | false => simpa using hc
  | true =>
    rw [if_pos rfl]
    unfold hitsE at h
    rw [hr, Bool.true_and, Bool.or_eq_false_iff] at h
    obtain ⟨h1, h2⟩ := h
    unfold stepT
    by_cases k1 : e.kind = 1
    · rw [if_pos k1]
      have hk : ¬ ek e = ck c := by simpa [k1] using h1
      refine List.mem_cons_of_mem _ (List.mem_filter.2 ⟨hc, ?_⟩)
      simp only [Bool.not_eq_true', decide_eq_false_iff_not]
      exact fun e' => hk (e'.symm)
    · rw [if_neg k1]
      by_cases k2 : e.kind = 2
      · rw [if_pos k2]
        split
        · rename_i hs
          refine List.mem_filter.2 ⟨hc, ?_⟩
          simp only [Bool.not_eq_true', decide_eq_false_iff_not]
          intro hk
          rw [← hk, find_some ho hc] at hs
          simp only [Option.getD_some] at hs
          simp [k2, hs, hk] at h2
        · exact hc
      · rw [if_neg k2]
        have h3 := kind_cases hr
        have k3 : e.kind = 3 := by rcases h3 with h3 | h3 | h3
                                   · exact absurd h3 k1
                                   · exact absurd h3 k2
                                   · exact h3
        refine List.mem_filter.2 ⟨hc, ?_⟩
        simp only [Bool.not_eq_true', decide_eq_false_iff_not]
        intro hs
        simp [k3, hs] at h2
theorem keep_fold : ∀ (l : List Ev) {c : Cell} {T : List Cell}, Once T → c ∈ T → (l.any fun e => hitsE ok e c) = false → c ∈ foldT ok l T
  | [], _, _, _, hc, _ => hc
  | e :: l, c, T, ho, hc, h => by
    rw [List.any_cons, Bool.or_eq_false_iff] at h
    exact keep_fold l (ho.apply ok e) (keep_apply ok ho hc h.1) h.2
theorem put_in {e : Ev} {T : List Cell} (hr : rightE ok e = true) (hk : e.kind = 1) : cellE e ∈ applyT ok e T := by
  unfold applyT stepT
  rw [if_pos hr, if_pos hk]
  exact List.mem_cons_self
/-- No row is a subject's. -/
def freeOf (s : List UInt8) (T : List Cell) : Prop := ∀ c ∈ T, txt c.subject ≠ s
theorem gone_free {e : Ev} {T : List Cell} (hr : rightE ok e = true) (hk : e.kind = 3) : freeOf (txt e.subject) (applyT ok e T) := by
  unfold applyT stepT
  rw [if_pos hr, if_neg (by rw [hk]; decide), if_neg (by rw [hk]; decide)]
  intro c hc
  have := (List.mem_filter.1 hc).2
  simpa using this
theorem free_apply {e : Ev} {s : List UInt8} {T : List Cell} (h : freeOf s T) (hp : (decide (e.kind = 1) && decide (txt e.subject = s)) = false) : freeOf s (applyT ok e T) := by
  unfold applyT
  split
  · unfold stepT
    split
    · rename_i k1
      have hs : txt e.subject ≠ s := by simpa [k1] using hp
      intro c hc
      rcases List.mem_cons.1 hc with rfl | hc
      · exact hs
      · exact h c (List.mem_filter.1 hc).1
    · split
      · split
        · exact fun c hc => h c (List.mem_filter.1 hc).1
        · exact h
      · exact fun c hc => h c (List.mem_filter.1 hc).1
  · exact h
theorem free_fold : ∀ (l : List Ev) {s : List UInt8} {T : List Cell}, freeOf s T → (l.any fun e => decide (e.kind = 1) && decide (txt e.subject = s)) = false → freeOf s (foldT ok l T)
  | [], _, _, h, _ => h
  | e :: l, s, T, h, hp => by
    rw [List.any_cons, Bool.or_eq_false_iff] at hp
    exact free_fold l (free_apply ok h hp.1) hp.2
theorem gone_fold : ∀ (l : List Ev) {s : List UInt8} {T : List Cell}, (l.any fun e => decide (e.kind = 3) && decide (txt e.subject = s) && rightE ok e) = true → (l.any fun e => decide (e.kind = 1) && decide (txt e.subject = s)) = false → freeOf s (foldT ok l T)
  | [], _, _, h, _ => by simp at h
  | e :: l, s, T, h, hp => by
    rw [List.any_cons, Bool.or_eq_false_iff] at hp
    rw [List.any_cons, Bool.or_eq_true] at h
    rcases h with h | h
    · simp only [Bool.and_eq_true, decide_eq_true_eq] at h
      obtain ⟨⟨h1, h2⟩, h3⟩ := h
      have := gone_free ok (T := T) h3 h1
      rw [h2] at this
      exact free_fold ok l this hp.2
    · exact gone_fold l h hp.2
/-- What is last is there. -/
theorem last_there {l m : List Ev} {e : Ev} (hr : rightE ok e = true) (hk : e.kind = 1) (h : (m.any fun x => hitsE ok x (cellE e)) = false) : cellE e ∈ foldT ok (l ++ e :: m) [] := by
  rw [foldT_append]
  exact keep_fold ok m ((once_foldT ok l List.Pairwise.nil).apply ok e) (put_in ok hr hk) h
theorem last_gone {l m : List Ev} {e : Ev} {s : List UInt8} (h : (m.any fun x => decide (x.kind = 3) && decide (txt x.subject = s) && rightE ok x) = true) (hp : (m.any fun x => decide (x.kind = 1) && decide (txt x.subject = s)) = false) : freeOf s (foldT ok (l ++ e :: m) []) := by
  rw [foldT_append]
  exact gone_fold ok m h hp
end
end Go.Proofs.YtcbcknfhblamfaaGreatDoor
