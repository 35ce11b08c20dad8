/- desk: block (the walk). -/
import Derived.Test.YtnkmckdefiblhaaGreatDoorProg
import Derived.Test.YtnkmckdefiblhaaGreatDoorG31
import Derived.Test.YtnkmckdefiblhaaGreatDoorG38
import Derived.Test.YtnkmckdefiblhaaGreatDoorG25
namespace Go.Proofs.YtnkmckdefiblhaaGreatDoor
open Go.RowKit Go.Shelf

def frDkB0 (db : Nat) (gb : Nat) (oo : Nat) (nw : Nat) (cap : Nat) (g : Nat → Value) : Act := { tmps := #[.pointer (some ⟨db, 0, none⟩), .slice (some ⟨gb, oo, none⟩) nw cap, undef, undef, .string ⟨#[]⟩, g 5, g 6, .slice (some ⟨gb, oo, none⟩) nw cap, .tuple #[], g 9, g 10, g 11, g 12, g 13, g 14, g 15, g 16, g 17, g 18, g 19, g 20, undef, undef, undef, undef, undef], defers := [] }
def dstDkB0 (i : Nat) : Nat := ([10, 11, 12, 13, 14, 15, 16, 17, 18, 9, 19, 20, 5, 6] : List Nat).getD i (2000 + i)
def laysDkB0 (gb : Nat) (oo : Nat) (nw : Nat) (cap : Nat) (a0 : ByteArray) (a1 : ByteArray) (ka : ByteArray) (j : Nat) (v : Value) (_ : World) : Prop :=
  match j with
  | 0 => v = .slice (some ⟨gb, oo, none⟩) nw cap
  | 1 => v = .pointer (some ⟨gb, oo, none⟩)
  | 2 => v = .string a0
  | 3 => v = .string ka
  | 4 => v = .slice (some ⟨gb, oo, none⟩) nw cap
  | 5 => v = .pointer (some ⟨gb, oo + 1, none⟩)
  | 6 => v = .string a1
  | 7 => False
  | 8 => False
  | 9 => False
  | 10 => False
  | 11 => False
  | 12 => False
  | 13 => False
  | _ => True
def frDkB1 (db : Nat) (gb : Nat) (oo : Nat) (nw : Nat) (cap : Nat) (g : Nat → Value) : Act := { tmps := #[.pointer (some ⟨db, 0, none⟩), .slice (some ⟨gb, oo, none⟩) nw cap, undef, undef, .string ⟨#[]⟩, g 5, g 6, .slice (some ⟨gb, oo, none⟩) nw cap, .tuple #[], g 9, g 10, g 11, g 12, g 13, g 14, g 15, g 16, g 17, g 18, g 19, g 20, undef, undef, undef, undef, undef], defers := [] }
def dstDkB1 (i : Nat) : Nat := ([10, 11, 12, 13, 14, 15, 16, 17, 18, 9, 19, 20, 5, 6] : List Nat).getD i (2000 + i)
def laysDkB1 (gb : Nat) (oo : Nat) (nw : Nat) (cap : Nat) (a0 : ByteArray) (a1 : ByteArray) (ka : ByteArray) (nn : Int) (bk : ByteArray) (ev : Value) (j : Nat) (v : Value) (_ : World) : Prop :=
  match j with
  | 0 => v = .slice (some ⟨gb, oo, none⟩) nw cap
  | 1 => v = .pointer (some ⟨gb, oo, none⟩)
  | 2 => v = .string a0
  | 3 => v = .string ka
  | 4 => v = .slice (some ⟨gb, oo, none⟩) nw cap
  | 5 => v = .pointer (some ⟨gb, oo + 1, none⟩)
  | 6 => v = .string a1
  | 7 => v = .int .i64 nn
  | 8 => v = .tuple #[.string bk, ev]
  | 9 => v = .tuple #[.string bk, ev]
  | 10 => v = .string bk
  | 11 => v = ev
  | 12 => v = .string bk
  | 13 => v = ev
  | _ => True
set_option maxRecDepth 100000 in
set_option maxHeartbeats 4000000 in
theorem block_cmd (p : Option Addr) (ws : List ByteArray) (cap : Nat) (w : World) (A : Blk) (db n : Nat) (M : DkM) (h : cmdIn w A db n M p ws cap) :
    Calls Tryz.prog 34 #[.pointer (some ⟨db, 0, none⟩), .slice p ws.length cap] w (CmdPost (blockD M ws) w A db n) := by
  have WD := dwords_any p ws.length cap 2 w h.glob.glob.err
  by_cases hl : ws.length = 2
  case neg =>
    rw [show blockD M ws = (.er 3, M) from if_neg hl]
    have HP : Hid (∀ w', (∃ x, w' = ext w x) → CmdPost (.er 3, M) w A db n (.panicked (thrown 3)) w') := Lib.hid fun w' hx => .same h.dk hx rfl rfl
    generalize CmdPost (.er 3, M) w A db n = P at HP ⊢
    have hli : (ws.length : Int) ≠ 2 := by omega
    clear h hl
    go_enter Tryz.func34, Tryz.ntmps34
    go_wp2_with fail
    refine WD.mono ?_
    rintro e w1 ⟨_, he, hx⟩
    obtain rfl := he hli
    have X := Lib.hid hx
    clear hx WD he
    go_wp2_with fail
    exact ⟨rfl, HP.out _ X.out⟩
  case pos =>
    have hli := Lib.hid (show (ws.length : Int) = 2 by omega)
    unfold blockD
    rw [if_pos hl]
    obtain ⟨own, sb, vb, mb, V, rb, q, c, H, rfl⟩ := h.dk
    have HD := Lib.hid H
    obtain ⟨c0, c1, c2, c3, c4, c5, lt⟩ := six_at H.blk
    have G := Lib.hid h.glob
    have IV := Lib.hid h.inv
    have SMW := Lib.hid h.small
    have hn := h.n_
    have hpos : 1 < ws.length := by omega
    obtain ⟨gb, oo, rfl, hg, hw0, hw1⟩ := words_two h.words hl
    have HG := Lib.hid hg
    have HW0 := Lib.hid hw0
    have HW1 := Lib.hid hw1
    have NB := fun w hG => number_any (wd1 ws) w (F := whole own) hG (by have := wd1_size SMW.out; omega)
    have SM := fun w hR => sum_any (wd0 ws) w (by have := wd0_size SMW.out; omega) hR
    have hks : (⟨(sumB (wd0 ws).data.toList).toArray⟩ : ByteArray).size = 32 := by show (List.toArray _).size = 32; rw [List.size_toArray, sumB_length]
    have hkl : sumB (wd0 ws).data.toList = (⟨(sumB (wd0 ws).data.toList).toArray⟩ : ByteArray).data.toList := rfl
    rw [hkl]
    clear hkl
    generalize (⟨(sumB (wd0 ws).data.toList).toArray⟩ : ByteArray) = ka at *
    have HERE := Lib.hid (⟨own, sb, vb, mb, V, rb, q, c, H, rfl⟩ : dkIn w (whole own) db n M)
    clear h H c0 c1 c2 c3 c4 c5 hl hg hw0 hw1
    cases hnr : numR (wd1 ws) with
    | none =>
      dsimp only
      have HP : Hid (∀ w', (∃ x, w' = ext w x) → CmdPost (.er 3, M) w (whole own) db n (.panicked (thrown 3)) w') := Lib.hid fun w' hx => .same HERE.out hx rfl rfl
      generalize CmdPost (.er 3, M) w (whole own) db n = P at HP ⊢
      rw [hnr] at NB
      clear hnr
      generalize wd0 ws = a0 at *
      generalize wd1 ws = a1 at *
      go_enter Tryz.func34, Tryz.ntmps34
      go_wp2_with fail
      refine WD.mono ?_
      rintro e w1 ⟨he, _, hx⟩
      obtain rfl := he hli.out
      have X := Lib.hid hx
      clear hx WD he
      go_wp2_with fail
      generalize w1 = wr at *
      refine wp_region_slotsP (frDkB0 db gb oo ws.length cap) dstDkB0 (fun _ => undef) (laysDkB0 gb oo ws.length cap a0 a1 ka) (fun L g w => ∃ x, w = ext wr x) (fun w w' => True) (by kernel_rfl) (by kernel_rfl) rfl ?_ (by kernel_rfl) (ext_drew (ext_refl _)) ?_ ?_
      · exact fun _ _ _ _ _ h => h
      · refine ⟨?_, ?_, ?_, ?_, ?_, ?_, ?_, ?_, ?_, ?_, ?_, ?_, ?_, ?_, trivial⟩
        all_goals (intro L gs w1 hLi hdeps hR hC; refine endsP_of fun Q hQ hQP => ?_)
        · have HQ := fun (a' : Act) (va : Value) (w' : World) (h1 : a' = frDkB0 db gb oo ws.length cap (upd1 gs 10 va)) h2 (h3 : laysDkB0 gb oo ws.length cap a0 a1 ka 0 va w') h4 => hQ.out a' w' ⟨va, h1, h2, h3, h4⟩
          unfold frDkB0
          go_wp2_with fail
          exact HQ _ (.slice (some ⟨gb, oo, none⟩) ws.length cap) _ (by simp only [frDkB0, upd1, Nat.reduceEqDiff, reduceIte]) trivial rfl hC
        · have HQ := fun (a' : Act) (va : Value) (w' : World) (h1 : a' = frDkB0 db gb oo ws.length cap (upd1 gs 11 va)) h2 (h3 : laysDkB0 gb oo ws.length cap a0 a1 ka 1 va w') h4 => hQ.out a' w' ⟨va, h1, h2, h3, h4⟩
          have r0 : gs 10 = .slice (some ⟨gb, oo, none⟩) ws.length cap := hR 0 (hdeps ⟨0, .data⟩ (by simp) rfl)
          unfold frDkB0
          go_wp2_with fail
          exact HQ _ (.pointer (some ⟨gb, oo, none⟩)) _ (by simp only [frDkB0, upd1, r0, Nat.reduceEqDiff, reduceIte]) trivial rfl hC
        · have HQ := fun (a' : Act) (va : Value) (w' : World) (h1 : a' = frDkB0 db gb oo ws.length cap (upd1 gs 12 va)) h2 (h3 : laysDkB0 gb oo ws.length cap a0 a1 ka 2 va w') h4 => hQ.out a' w' ⟨va, h1, h2, h3, h4⟩
          have r1 : gs 11 = .pointer (some ⟨gb, oo, none⟩) := hR 1 (hdeps ⟨1, .data⟩ (by simp) rfl)
          have e0 : w1.cell? ⟨gb, oo, none⟩ = _ := cell_below (ext_iff.1 (ext_trans X.out hC)) HG.out HW0.out
          have e1 : w1.cell? ⟨gb, oo + 1, none⟩ = _ := cell_below (ext_iff.1 (ext_trans X.out hC)) HG.out HW1.out
          have lw1 : gb < w1.heap.size := Nat.lt_of_lt_of_le HG.out (ext_iff.1 (ext_trans X.out hC)).size
          unfold frDkB0
          go_wp2_with fail
          exact HQ _ (.string a0) _ (by simp only [frDkB0, upd1, r1, Nat.reduceEqDiff, reduceIte]) trivial rfl hC
        · have HQ := fun (a' : Act) (va : Value) (w' : World) (h1 : a' = frDkB0 db gb oo ws.length cap (upd1 gs 13 va)) h2 (h3 : laysDkB0 gb oo ws.length cap a0 a1 ka 3 va w') h4 => hQ.out a' w' ⟨va, h1, h2, h3, h4⟩
          have r2 : gs 12 = .string a0 := hR 2 (hdeps ⟨2, .data⟩ (by simp) rfl)
          unfold frDkB0
          go_wp2_with fail
          refine (SM w1 (G.out.ext (ext_trans X.out hC)).glob.rounds).mono ?_
          rintro _ w5 ⟨rfl, hx⟩
          go_wp2_with fail
          exact HQ _ (.string ka) _ (by simp only [frDkB0, upd1, r2, Nat.reduceEqDiff, reduceIte]) trivial rfl (ext_trans hC hx)
        · have HQ := fun (a' : Act) (va : Value) (w' : World) (h1 : a' = frDkB0 db gb oo ws.length cap (upd1 gs 14 va)) h2 (h3 : laysDkB0 gb oo ws.length cap a0 a1 ka 4 va w') h4 => hQ.out a' w' ⟨va, h1, h2, h3, h4⟩
          unfold frDkB0
          go_wp2_with fail
          exact HQ _ (.slice (some ⟨gb, oo, none⟩) ws.length cap) _ (by simp only [frDkB0, upd1, Nat.reduceEqDiff, reduceIte]) trivial rfl hC
        · have HQ := fun (a' : Act) (va : Value) (w' : World) (h1 : a' = frDkB0 db gb oo ws.length cap (upd1 gs 15 va)) h2 (h3 : laysDkB0 gb oo ws.length cap a0 a1 ka 5 va w') h4 => hQ.out a' w' ⟨va, h1, h2, h3, h4⟩
          have r4 : gs 14 = .slice (some ⟨gb, oo, none⟩) ws.length cap := hR 4 (hdeps ⟨4, .data⟩ (by simp) rfl)
          unfold frDkB0
          go_wp2_with fail
          exact HQ _ (.pointer (some ⟨gb, oo + 1, none⟩)) _ (by simp only [frDkB0, upd1, r4, Nat.reduceEqDiff, reduceIte]) trivial rfl hC
        · have HQ := fun (a' : Act) (va : Value) (w' : World) (h1 : a' = frDkB0 db gb oo ws.length cap (upd1 gs 16 va)) h2 (h3 : laysDkB0 gb oo ws.length cap a0 a1 ka 6 va w') h4 => hQ.out a' w' ⟨va, h1, h2, h3, h4⟩
          have r5 : gs 15 = .pointer (some ⟨gb, oo + 1, none⟩) := hR 5 (hdeps ⟨5, .data⟩ (by simp) rfl)
          have e0 : w1.cell? ⟨gb, oo, none⟩ = _ := cell_below (ext_iff.1 (ext_trans X.out hC)) HG.out HW0.out
          have e1 : w1.cell? ⟨gb, oo + 1, none⟩ = _ := cell_below (ext_iff.1 (ext_trans X.out hC)) HG.out HW1.out
          have lw1 : gb < w1.heap.size := Nat.lt_of_lt_of_le HG.out (ext_iff.1 (ext_trans X.out hC)).size
          unfold frDkB0
          go_wp2_with fail
          exact HQ _ (.string a1) _ (by simp only [frDkB0, upd1, r5, Nat.reduceEqDiff, reduceIte]) trivial rfl hC
        · have r6 : gs 16 = .string a1 := hR 6 (hdeps ⟨6, .data⟩ (by simp) rfl)
          unfold frDkB0
          go_wp2_with fail
          refine (NB w1 (G.out.ext (ext_trans X.out hC))).mono ?_
          rintro e w5 ⟨_, he, hx⟩
          obtain rfl := he trivial
          have X5 := Lib.hid (ext_trans (ext_trans X.out hC) hx)
          clear hx he
          go_wp2_with fail
          exact hQP.out _ _ _ ⟨rfl, HP.out _ X5.out⟩
        · exact (hR 7 (hdeps ⟨7, .data⟩ (by simp) rfl)).elim
        · exact (hR 8 (hdeps ⟨8, .data⟩ (by simp) rfl)).elim
        · exact (hR 9 (hdeps ⟨9, .data⟩ (by simp) rfl)).elim
        · exact (hR 9 (hdeps ⟨9, .data⟩ (by simp) rfl)).elim
        · exact (hR 10 (hdeps ⟨10, .data⟩ (by simp) rfl)).elim
        · exact (hR 11 (hdeps ⟨11, .data⟩ (by simp) rfl)).elim
      intro L7 g7 w8 hall hR hC
      exact (hR 7 (by decide)).elim
    | some nn =>
      dsimp only
      have hnb := numR_bounds hnr
      rw [hnr] at NB
      clear hnr
      generalize wd0 ws = a0 at *
      generalize wd1 ws = a1 at *
      have hzs : (⟨#[48, 48, 48, 48, 48, 48, 48, 48, 48, 48, 48, 48]⟩ : ByteArray).size = 12 := rfl
      obtain ⟨bk, ev, BK, HBK⟩ : ∃ (bk : ByteArray) (ev : Value), (∀ w, Calls Tryz.prog 54 #[.string ka, .int .i64 nn, .string ⟨#[48, 48, 48, 48, 48, 48, 48, 48, 48, 48, 48, 48]⟩] w fun r w' => r = .returned (.tuple #[.string bk, ev]) ∧ ∃ x, w' = ext w x) ∧
          ((0 ≤ nn ∧ nn < 4294967296 ∧ ev = .nilIface ∧ bk = ⟨(block ka.data.toList nn.toNat zerosT.data.toList).toArray⟩) ∨ (¬ (0 ≤ nn ∧ nn < 4294967296) ∧ ev = errV 1)) := by
        by_cases hc : 0 ≤ nn ∧ nn < 4294967296
        · exact ⟨_, .nilIface, fun w => block_any ka ⟨#[48, 48, 48, 48, 48, 48, 48, 48, 48, 48, 48, 48]⟩ nn.toNat w hks hzs (by omega) nn (by omega), .inl ⟨hc.1, hc.2, rfl, rfl⟩⟩
        · exact ⟨_, errV 1, fun w => block_bad ka _ nn w (fun h => hc h.2.2), .inr ⟨hc, rfl⟩⟩
      have HBK := Lib.hid HBK
      have HP : Hid (∀ e w', CmdPost (if 0 ≤ nn ∧ nn < 4294967296 then (.ok (⟨#[98, 108, 111, 99, 107, 32]⟩ ++ hexT (block ka.data.toList nn.toNat zerosT.data.toList)), M) else (.er 1, M)) w (whole own) db n e w' → CmdPost (if 0 ≤ nn ∧ nn < 4294967296 then (.ok (⟨#[98, 108, 111, 99, 107, 32]⟩ ++ hexT (block ka.data.toList nn.toNat zerosT.data.toList)), M) else (.er 1, M)) w (whole own) db n e w') := Lib.hid fun _ _ h => h
      generalize hPP : CmdPost (if 0 ≤ nn ∧ nn < 4294967296 then (.ok (⟨#[98, 108, 111, 99, 107, 32]⟩ ++ hexT (block ka.data.toList nn.toNat zerosT.data.toList)), M) else (.er 1, M)) w (whole own) db n = P
      rw [hPP] at HP
      have HPP := Lib.hid hPP
      clear hPP HP hks hzs
      go_enter Tryz.func34, Tryz.ntmps34
      go_wp2_with fail
      refine WD.mono ?_
      rintro e w1 ⟨he, _, hx⟩
      obtain rfl := he hli.out
      have X := Lib.hid hx
      clear hx WD he
      go_wp2_with fail
      generalize w1 = wr at *
      refine wp_region_slots (frDkB1 db gb oo ws.length cap) dstDkB1 (fun _ => undef) (laysDkB1 gb oo ws.length cap a0 a1 ka nn bk ev) (fun L g w => ∃ x, w = ext wr x) (fun w w' => True) (by kernel_rfl) (by kernel_rfl) rfl ?_ (by kernel_rfl) (ext_drew (ext_refl _)) ?_ ?_
      · exact fun _ _ _ _ _ h => h
      · refine ⟨?_, ?_, ?_, ?_, ?_, ?_, ?_, ?_, ?_, ?_, ?_, ?_, ?_, ?_, trivial⟩
        all_goals (intro L gs w1 hLi hdeps hR hC; refine ends_of fun Q hQ => ?_)
        · have HQ := fun (a' : Act) (va : Value) (w' : World) (h1 : a' = frDkB1 db gb oo ws.length cap (upd1 gs 10 va)) h2 (h3 : laysDkB1 gb oo ws.length cap a0 a1 ka nn bk ev 0 va w') h4 => hQ.out a' w' ⟨va, h1, h2, h3, h4⟩
          unfold frDkB1
          go_wp2_with fail
          exact HQ _ (.slice (some ⟨gb, oo, none⟩) ws.length cap) _ (by simp only [frDkB1, upd1, Nat.reduceEqDiff, reduceIte]) trivial rfl hC
        · have HQ := fun (a' : Act) (va : Value) (w' : World) (h1 : a' = frDkB1 db gb oo ws.length cap (upd1 gs 11 va)) h2 (h3 : laysDkB1 gb oo ws.length cap a0 a1 ka nn bk ev 1 va w') h4 => hQ.out a' w' ⟨va, h1, h2, h3, h4⟩
          have r0 : gs 10 = .slice (some ⟨gb, oo, none⟩) ws.length cap := hR 0 (hdeps ⟨0, .data⟩ (by simp) rfl)
          unfold frDkB1
          go_wp2_with fail
          exact HQ _ (.pointer (some ⟨gb, oo, none⟩)) _ (by simp only [frDkB1, upd1, r0, Nat.reduceEqDiff, reduceIte]) trivial rfl hC
        · have HQ := fun (a' : Act) (va : Value) (w' : World) (h1 : a' = frDkB1 db gb oo ws.length cap (upd1 gs 12 va)) h2 (h3 : laysDkB1 gb oo ws.length cap a0 a1 ka nn bk ev 2 va w') h4 => hQ.out a' w' ⟨va, h1, h2, h3, h4⟩
          have r1 : gs 11 = .pointer (some ⟨gb, oo, none⟩) := hR 1 (hdeps ⟨1, .data⟩ (by simp) rfl)
          have e0 : w1.cell? ⟨gb, oo, none⟩ = _ := cell_below (ext_iff.1 (ext_trans X.out hC)) HG.out HW0.out
          have e1 : w1.cell? ⟨gb, oo + 1, none⟩ = _ := cell_below (ext_iff.1 (ext_trans X.out hC)) HG.out HW1.out
          have lw1 : gb < w1.heap.size := Nat.lt_of_lt_of_le HG.out (ext_iff.1 (ext_trans X.out hC)).size
          unfold frDkB1
          go_wp2_with fail
          exact HQ _ (.string a0) _ (by simp only [frDkB1, upd1, r1, Nat.reduceEqDiff, reduceIte]) trivial rfl hC
        · have HQ := fun (a' : Act) (va : Value) (w' : World) (h1 : a' = frDkB1 db gb oo ws.length cap (upd1 gs 13 va)) h2 (h3 : laysDkB1 gb oo ws.length cap a0 a1 ka nn bk ev 3 va w') h4 => hQ.out a' w' ⟨va, h1, h2, h3, h4⟩
          have r2 : gs 12 = .string a0 := hR 2 (hdeps ⟨2, .data⟩ (by simp) rfl)
          unfold frDkB1
          go_wp2_with fail
          refine (SM w1 (G.out.ext (ext_trans X.out hC)).glob.rounds).mono ?_
          rintro _ w5 ⟨rfl, hx⟩
          go_wp2_with fail
          exact HQ _ (.string ka) _ (by simp only [frDkB1, upd1, r2, Nat.reduceEqDiff, reduceIte]) trivial rfl (ext_trans hC hx)
        · have HQ := fun (a' : Act) (va : Value) (w' : World) (h1 : a' = frDkB1 db gb oo ws.length cap (upd1 gs 14 va)) h2 (h3 : laysDkB1 gb oo ws.length cap a0 a1 ka nn bk ev 4 va w') h4 => hQ.out a' w' ⟨va, h1, h2, h3, h4⟩
          unfold frDkB1
          go_wp2_with fail
          exact HQ _ (.slice (some ⟨gb, oo, none⟩) ws.length cap) _ (by simp only [frDkB1, upd1, Nat.reduceEqDiff, reduceIte]) trivial rfl hC
        · have HQ := fun (a' : Act) (va : Value) (w' : World) (h1 : a' = frDkB1 db gb oo ws.length cap (upd1 gs 15 va)) h2 (h3 : laysDkB1 gb oo ws.length cap a0 a1 ka nn bk ev 5 va w') h4 => hQ.out a' w' ⟨va, h1, h2, h3, h4⟩
          have r4 : gs 14 = .slice (some ⟨gb, oo, none⟩) ws.length cap := hR 4 (hdeps ⟨4, .data⟩ (by simp) rfl)
          unfold frDkB1
          go_wp2_with fail
          exact HQ _ (.pointer (some ⟨gb, oo + 1, none⟩)) _ (by simp only [frDkB1, upd1, r4, Nat.reduceEqDiff, reduceIte]) trivial rfl hC
        · have HQ := fun (a' : Act) (va : Value) (w' : World) (h1 : a' = frDkB1 db gb oo ws.length cap (upd1 gs 16 va)) h2 (h3 : laysDkB1 gb oo ws.length cap a0 a1 ka nn bk ev 6 va w') h4 => hQ.out a' w' ⟨va, h1, h2, h3, h4⟩
          have r5 : gs 15 = .pointer (some ⟨gb, oo + 1, none⟩) := hR 5 (hdeps ⟨5, .data⟩ (by simp) rfl)
          have e0 : w1.cell? ⟨gb, oo, none⟩ = _ := cell_below (ext_iff.1 (ext_trans X.out hC)) HG.out HW0.out
          have e1 : w1.cell? ⟨gb, oo + 1, none⟩ = _ := cell_below (ext_iff.1 (ext_trans X.out hC)) HG.out HW1.out
          have lw1 : gb < w1.heap.size := Nat.lt_of_lt_of_le HG.out (ext_iff.1 (ext_trans X.out hC)).size
          unfold frDkB1
          go_wp2_with fail
          exact HQ _ (.string a1) _ (by simp only [frDkB1, upd1, r5, Nat.reduceEqDiff, reduceIte]) trivial rfl hC
        · have HQ := fun (a' : Act) (va : Value) (w' : World) (h1 : a' = frDkB1 db gb oo ws.length cap (upd1 gs 17 va)) h2 (h3 : laysDkB1 gb oo ws.length cap a0 a1 ka nn bk ev 7 va w') h4 => hQ.out a' w' ⟨va, h1, h2, h3, h4⟩
          have r6 : gs 16 = .string a1 := hR 6 (hdeps ⟨6, .data⟩ (by simp) rfl)
          unfold frDkB1
          go_wp2_with fail
          refine (NB w1 (G.out.ext (ext_trans X.out hC))).mono ?_
          rintro e w5 ⟨he, _, hx⟩
          obtain rfl := he _ rfl
          go_wp2_with fail
          exact HQ _ (.int .i64 nn) _ (by simp only [frDkB1, upd1, r6, Nat.reduceEqDiff, reduceIte]) trivial rfl (ext_trans hC hx)
        · have HQ := fun (a' : Act) (va : Value) (w' : World) (h1 : a' = frDkB1 db gb oo ws.length cap (upd1 gs 18 va)) h2 (h3 : laysDkB1 gb oo ws.length cap a0 a1 ka nn bk ev 8 va w') h4 => hQ.out a' w' ⟨va, h1, h2, h3, h4⟩
          have r3 : gs 13 = .string ka := hR 3 (hdeps ⟨3, .data⟩ (by simp) rfl)
          have r7 : gs 17 = .int .i64 nn := hR 7 (hdeps ⟨7, .data⟩ (by simp) rfl)
          unfold frDkB1
          go_wp2_with fail
          refine (BK w1).mono ?_
          rintro _ w5 ⟨rfl, hx⟩
          go_wp2_with fail
          exact HQ _ (.tuple #[.string bk, ev]) _ (by simp only [frDkB1, upd1, r3, r7, Nat.reduceEqDiff, reduceIte]) trivial rfl (ext_trans hC hx)
        · have HQ := fun (a' : Act) (va : Value) (w' : World) (h1 : a' = frDkB1 db gb oo ws.length cap (upd1 gs 9 va)) h2 (h3 : laysDkB1 gb oo ws.length cap a0 a1 ka nn bk ev 9 va w') h4 => hQ.out a' w' ⟨va, h1, h2, h3, h4⟩
          have r8 : gs 18 = .tuple #[.string bk, ev] := hR 8 (hdeps ⟨8, .data⟩ (by simp) rfl)
          unfold frDkB1
          go_wp2_with fail
          exact HQ _ (.tuple #[.string bk, ev]) _ (by simp only [frDkB1, upd1, r8, Nat.reduceEqDiff, reduceIte]) trivial rfl hC
        · have HQ := fun (a' : Act) (va : Value) (w' : World) (h1 : a' = frDkB1 db gb oo ws.length cap (upd1 gs 19 va)) h2 (h3 : laysDkB1 gb oo ws.length cap a0 a1 ka nn bk ev 10 va w') h4 => hQ.out a' w' ⟨va, h1, h2, h3, h4⟩
          have r9 : gs 9 = .tuple #[.string bk, ev] := hR 9 (hdeps ⟨9, .data⟩ (by simp) rfl)
          unfold frDkB1
          go_wp2_with fail
          exact HQ _ (.string bk) _ (by simp only [frDkB1, upd1, r9, Nat.reduceEqDiff, reduceIte]) trivial rfl hC
        · have HQ := fun (a' : Act) (va : Value) (w' : World) (h1 : a' = frDkB1 db gb oo ws.length cap (upd1 gs 20 va)) h2 (h3 : laysDkB1 gb oo ws.length cap a0 a1 ka nn bk ev 11 va w') h4 => hQ.out a' w' ⟨va, h1, h2, h3, h4⟩
          have r9 : gs 9 = .tuple #[.string bk, ev] := hR 9 (hdeps ⟨9, .data⟩ (by simp) rfl)
          unfold frDkB1
          go_wp2_with fail
          exact HQ _ (ev) _ (by simp only [frDkB1, upd1, r9, Nat.reduceEqDiff, reduceIte]) trivial rfl hC
        · have HQ := fun (a' : Act) (va : Value) (w' : World) (h1 : a' = frDkB1 db gb oo ws.length cap (upd1 gs 5 va)) h2 (h3 : laysDkB1 gb oo ws.length cap a0 a1 ka nn bk ev 12 va w') h4 => hQ.out a' w' ⟨va, h1, h2, h3, h4⟩
          have r10 : gs 19 = .string bk := hR 10 (hdeps ⟨10, .data⟩ (by simp) rfl)
          unfold frDkB1
          go_wp2_with fail
          exact HQ _ (.string bk) _ (by simp only [frDkB1, upd1, r10, Nat.reduceEqDiff, reduceIte]) trivial rfl hC
        · have HQ := fun (a' : Act) (va : Value) (w' : World) (h1 : a' = frDkB1 db gb oo ws.length cap (upd1 gs 6 va)) h2 (h3 : laysDkB1 gb oo ws.length cap a0 a1 ka nn bk ev 13 va w') h4 => hQ.out a' w' ⟨va, h1, h2, h3, h4⟩
          have r11 : gs 20 = ev := hR 11 (hdeps ⟨11, .data⟩ (by simp) rfl)
          unfold frDkB1
          go_wp2_with fail
          exact HQ _ (ev) _ (by simp only [frDkB1, upd1, r11, Nat.reduceEqDiff, reduceIte]) trivial rfl hC
      intro L7 g7 w8 hall hR hC
      have s5 : g7 5 = .string bk := hR 12 (by decide)
      have s6 : g7 6 = ev := hR 13 (by decide)
      have X8 := Lib.hid (ext_trans X.out hC)
      clear hR hC hall SM NB BK
      unfold frDkB1
      rw [s5, s6]
      clear s5 s6
      rcases HBK.out with ⟨h0, h1, rfl, hbk⟩ | ⟨h0, rfl⟩
      · have HP : Hid (∀ w', (∃ x, w' = ext w x) → P (.returned (.string (⟨#[98, 108, 111, 99, 107, 32]⟩ ++ hexT (block ka.data.toList nn.toNat zerosT.data.toList)))) w') := Lib.hid fun w' hx => by
          rw [← HPP.out, if_pos ⟨h0, h1⟩]; exact .same HERE.out hx rfl rfl
        have HXX := fun w => hexT_any (block ka.data.toList nn.toNat zerosT.data.toList) w (by unfold block; rw [outB_length]; omega)
        have hhs : (hexT (block ka.data.toList nn.toNat zerosT.data.toList)).size = 128 := by rw [hexT_size]; unfold block; rw [outB_length]
        rw [← hbk] at HXX
        clear HPP HBK hbk h0 h1
        generalize hexT (block ka.data.toList nn.toNat zerosT.data.toList) = hx1 at *
        go_wp2_with fail
        refine (must_ok w8).mono ?_
        rintro _ _ ⟨rfl, rfl⟩
        go_wp2_with fail
        refine (HXX _).mono ?_
        rintro _ w9 ⟨rfl, hx⟩
        have X9 := Lib.hid (ext_trans X8.out hx)
        clear hx HXX
        go_wp2_with fail
        exact HP.out _ X9.out
      · have HP : Hid (∀ w', (∃ x, w' = ext w x) → P (.panicked (thrown 1)) w') := Lib.hid fun w' hx => by
          rw [← HPP.out, if_neg h0]; exact .same HERE.out hx rfl rfl
        have MB := fun w hE => must_bad 1 w hE
        unfold errV at MB ⊢
        clear HPP HBK h0
        go_wp2_with fail
        refine (MB _ (G.out.ext X8.out).glob.err).mono ?_
        rintro _ w9 ⟨rfl, hx⟩
        have X9 := Lib.hid (ext_trans X8.out hx)
        clear hx MB
        go_wp2_with fail
        exact ⟨rfl, HP.out _ X9.out⟩
end Go.Proofs.YtnkmckdefiblhaaGreatDoor
