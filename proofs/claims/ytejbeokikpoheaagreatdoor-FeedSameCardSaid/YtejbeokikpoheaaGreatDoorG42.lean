/- oubliettekeep.FeedSame (the walk). -/
import Derived.Test.YtejbeokikpoheaaGreatDoorProg
import Derived.Test.YtejbeokikpoheaaGreatDoorG40
import Derived.Test.YtejbeokikpoheaaGreatDoorG41
import Derived.Test.YtejbeokikpoheaaGreatDoorG31
import Derived.Laws.OwnMore
namespace Go.Proofs.YtejbeokikpoheaaGreatDoor
open Go.RowKit Go.Shelf

section
variable {ops : Array Oper} {rest : List Oper} {o : Oper} {a : Act} {w : World} {Q : Exit → Act → World → Prop}
/-- 'append(v, m...)', m nil or not. -/
theorem append_any (base : Nat) (v : Value) (s x : Operand) (l m : List Ev) (q : Option Addr) (c : Nat)
    (ho : o.op = .call { callee := .builtin .append, args := #[s, x], argTypes := #[22, 22] }) (hgd : o.guard = none) (hs : a.eval s = v) (hx : a.eval x = .slice q m.length c)
    (hown : ownsEl w base v l) (hm : evsAt w q m) (hq : q = none → m.length = 0 ∧ c = 0) (hlen : l.length + m.length ≤ 1099511627776) (hbase : base ≤ w.heap.size)
    (h : ∀ v' w', ownsEl w' base v' (l ++ m) → w.grownBy w' v.ownBlock → wpList Tryz.prog ops Q rest (a.put o.dst v') w') :
    wpList Tryz.prog ops Q (o :: rest) a w := by
  cases q with
  | some ad => exact append_evs base v s x l m ad c ho hgd hs hx hown (fun j u hj => (evs_flat hm j u hj).2) hlen hbase h
  | none =>
    obtain ⟨h1, rfl⟩ := hq rfl
    rw [h1] at hx
    obtain ⟨i0, hi, hz0, hz1, hz2⟩ := info_parts infoE
    refine wpList_plain hgd fun K' hK' => ?_
    have hrun := run_append_owned_none (P := Tryz.prog) (w := w) base 22 o.type 31 i0 5 Tryz.underlying22 hi v l.length (flatE l) hown
    unfold Oper.wp
    simp [execOp, ho, resolve, invoke, builtin, hs, hx, hrun, Result.andThen]
    refine hK' _ _ (h v w ?_ (grown_refl _ _))
    rw [List.length_eq_zero_iff.1 h1, List.append_nil]; exact hown
end
theorem ownsRl_cap {w : World} {base n c : Nat} {q : Option Addr} {l : List Rec} (h : ownsRl w base (.slice q n c) l) : n ≤ c ∧ n = l.length := by
  obtain ⟨_, ⟨h1, h2⟩ | ⟨g, cap', cur, h1, _, _, h2, _⟩⟩ := h
  · injection h1 with _ h1 h3; subst h1 h3; exact ⟨Nat.le_refl _, h2.symm⟩
  · injection h1 with _ h1 h3; subst h1 h3; exact ⟨h2, rfl⟩
theorem recsAt_prefix {w : World} {q : Option Addr} {l t : List Rec} (h : recsAt w q (l ++ t)) : recsAt w q l := by
  rcases h with h | ⟨g, o, hq, hg, hc⟩
  · exact .inl (List.append_eq_nil_iff.1 h).1
  · exact .inr ⟨g, o, hq, hg, fun j e hj => hc j e (by rw [List.getElem?_append_left (List.getElem?_eq_some_iff.1 hj).1]; exact hj)⟩
set_option maxRecDepth 100000 in
set_option maxHeartbeats 8000000 in
theorem feedSame_any (q1 : Option Addr) (cp1 : Nat) (l : List Ev) (q2 : Option Addr) (cp2 : Nat) (m : List Ev) (w : World) (hl : l.length ≤ 9223372036854775807) (hm : m.length ≤ 9223372036854775807) (h1 : evsAt w q1 l) (h2 : evsAt w q2 m) (hn2 : q2 = none → m.length = 0 ∧ cp2 = 0) (hG : Glob w none0) :
    Calls Tryz.prog 3 #[.slice q1 l.length cp1, .slice q2 m.length cp2] w (Res true w) := by
  have F1 := few_any q1 cp1 l w hl h1
  have S1 := Lib.hid (fun h : fewB l = true => few_sizes h)
  have S2 := Lib.hid (fun h : fewB m = true => few_sizes h)
  have E1 := Lib.hid h1
  have E2 := Lib.hid h2
  have N2 := Lib.hid hn2
  have GG := Lib.hid hG
  clear h1 h2 hG hn2
  go_enter Tryz.func3, Tryz.ntmps3
  go_wp2_with fail
  refine F1.mono ?_
  rintro _ w1 ⟨rfl, hx⟩
  have X1 := Lib.hid hx
  have B1 := Lib.hid (ext_iff.1 hx)
  clear hx F1
  generalize fewB l = few1 at S1
  cases few1 with
  | false =>
    go_wp2_with fail
    go_ret
    exact ⟨rfl, X1.out⟩
  | true =>
    have F2 := few_any q2 cp2 m w1 hm (E2.out.at B1.out (Nat.le_refl _))
    go_wp2_with fail
    refine F2.mono ?_
    rintro _ w2 ⟨rfl, hx⟩
    have X2 := Lib.hid (ext_trans X1.out hx)
    clear hx F2 X1 B1
    generalize fewB m = few2 at S2
    cases few2 with
    | false =>
      go_wp2_with fail
      go_ret
      exact ⟨rfl, X2.out⟩
    | true =>
      obtain ⟨hl30, hls⟩ := S1.out (by trivial)
      obtain ⟨hm30, hms⟩ := S2.out (by trivial)
      have HLS := Lib.hid hls
      have HMS := Lib.hid hms
      clear S1 S2 hls hms
      go_wp2_with fail
      refine (fed_any w2 (GG.out.ext X2.out)).mono ?_
      rintro _ w3 ⟨rfl, hx⟩
      have X3 := Lib.hid (ext_trans X2.out hx)
      clear hx X2
      have B3 := Lib.hid (ext_iff.1 X3.out)
      have DN := done_any q1 cp1 l w3 (by omega) HLS.out (E1.out.at B3.out (Nat.le_refl _)) (GG.out.ext X3.out)
      go_wp2_with fail
      refine DN.mono ?_
      rintro _ w4 ⟨sb, vb, V, F, A, vo, vr, vs, rfl, hd⟩
      have D4 := Lib.hid hd
      have X4 := Lib.hid (ext_trans X3.out hd.st.ext)
      have B4 := Lib.hid (ext_iff.1 X4.out)
      clear hd DN X3 B3
      have CLO := cloneE_any q1 cp1 l w4 (E1.out.at B4.out (Nat.le_refl _)) (by omega)
      go_wp2_with fail
      refine CLO.mono ?_
      rintro _ w5 ⟨v5, rfl, ho5, hb5⟩
      have O5 := Lib.hid ho5
      have B5 := Lib.hid hb5
      clear ho5 hb5 CLO
      have E25 := Lib.hid (E2.out.at (B4.out.trans (B5.out.mono B4.out.size)) (Nat.le_refl _))
      have hlm : l.length + m.length ≤ 1099511627776 := by omega
      have hs5 := B5.out.size
      go_wp2_with (at_builtin; go_must (refine append_any w4.heap.size _ (.tmp 35) (.tmp 36) l m q2 cp2 rfl rfl rfl rfl O5.out E25.out N2.out hlm hs5 ?_); intro v6 w6 O6 g6)
      obtain ⟨q6, c6, rfl⟩ := ownsEl_shape O6
      have B46 := Lib.hid (B5.out.grown g6 B5.out.size (fun j hj => (O5.out.base hj).1))
      have X6 := Lib.hid (ext_trans X4.out (ext_of B46.out))
      have DN := done_any q6 c6 (l ++ m) w6 (by simp; omega) (fun e he => (List.mem_append.1 he).elim (HLS.out e) (HMS.out e)) (evsAt_owned O6) (GG.out.ext X6.out)
      have D6 := Lib.hid (D4.out.ext (ext_of B46.out))
      clear O6 g6 O5 B5 E25 hlm hs5 D4 B4 B46 X4
      go_wp2_with fail
      refine DN.mono ?_
      rintro _ w7 ⟨sb2, vb2, V2, F2, A2, vo2, vr2, vs2, rfl, hd⟩
      have D7 := Lib.hid (D6.out.ext hd.st.ext)
      have D72 := Lib.hid hd
      have X7 := Lib.hid (ext_trans X6.out hd.st.ext)
      clear hd DN D6 X6
      have SF := sfeed_any w7 V F sb vb _ secS _ D7.out.src
      go_wp2_with fail
      refine SF.mono ?_
      rintro _ w8 ⟨va, rfl, hoa, hba⟩
      have SF2 := sfeed_any w8 V2 F2 sb2 vb2 _ secS _ (D72.out.src.ext (ext_of hba))
      have OA := Lib.hid hoa
      have D8 := Lib.hid (D7.out.ext (ext_of hba))
      have X8 := Lib.hid (ext_trans X7.out (ext_of hba))
      clear hoa hba SF D7 D72 X7
      go_wp2_with fail
      refine SF2.mono ?_
      rintro _ w9 ⟨vb9, rfl, hob, hbb⟩
      have OA9 := Lib.hid (OA.out.kept (grown_below hbb none) (by simp))
      have D9 := Lib.hid (D8.out.ext (ext_of hbb))
      have X9 := Lib.hid (ext_trans X8.out (ext_of hbb))
      obtain ⟨qo, co, rfl⟩ := ownsEl_shape D9.out.oks
      have EO := Lib.hid (evsAt_owned D9.out.oks)
      obtain ⟨t, ht⟩ := run_prefix secS l m
      rw [ht] at hob
      obtain ⟨qa, ca, rfl⟩ := ownsRl_shape OA9.out
      obtain ⟨qb, cb, rfl⟩ := ownsRl_shape hob
      have RA := Lib.hid (recsAt_owned OA9.out)
      have RB := Lib.hid (recsAt_prefix (recsAt_owned hob))
      have hcb := (ownsRl_cap hob).1
      have IV := Lib.hid (inv_run secS l)
      have OL := ok_len secS l
      have LE := IV.out.len
      clear hob hbb SF2 OA OA9 D8 X8 ht
      generalize hLa : (runM secS l).S.L = La at RA RB LE hcb
      have hnb : (La ++ t).length = La.length + t.length := List.length_append
      rw [hnb] at hcb
      have EQ := eqR_same qa qb ca cb La w9 (by omega) RA.out RB.out
      have HLA := Lib.hid hLa
      clear hLa
      rw [hnb]
      clear hnb
      generalize hna : La.length = na at hcb LE EQ ⊢
      generalize t.length = nt at hcb ⊢
      have HNA := Lib.hid hna
      have HLE := Lib.hid LE
      clear hna LE
      have hnz : na ≤ 30 := by have := HLE.out; omega
      go_wp2_with fail
      refine EQ.mono ?_
      rintro _ w10 ⟨rfl, hx⟩
      have X10 := Lib.hid (ext_trans X9.out hx)
      have RA0 := Lib.hid (recsAt_of RA.out (fun k hk => (ext_iff.1 hx).block k hk) (ext_iff.1 hx).size)
      have EO0 := Lib.hid (evsAt_of EO.out (fun k hk => (ext_iff.1 hx).block k hk) (ext_iff.1 hx).size)
      have GW := Lib.hid (GG.out.ext X10.out)
      have hle := HLE.out
      have IV2 := Lib.hid (show ∀ i r e, La[i]? = some r → (runM secS l).ok[i]? = some e → isTold secS r e from fun i r e h1 h2 => (IV.out.told i r e (by rw [HLA.out]; exact h1) h2).1)
      clear hx EQ RA RB EO D9 X9 IV OL HLA
      generalize (runM secS l).ok = ok at hle EO0 IV2 ⊢
      rw [← hle]
      clear HLE
      go_wp2_with fail
      go_loopw [13] (fun iv wr => ∃ k : Nat, k ≤ na ∧ iv = .int .i64 k ∧ Hid (∃ x, wr = ext w10 x)) (fun iv _ => na - (intOf iv).toNat)
      case atStart => exact ⟨0, Nat.zero_le _, rfl, Lib.hid (ext_refl w10)⟩
      case round =>
        obtain ⟨k, hk, rfl, XX⟩ := hrel
        by_cases hlt : k < na
        · have hlo : k < ok.length := by omega
          have hla : k < La.length := by rw [HNA.out]; exact hlt
          have hx := List.getElem?_eq_getElem hlo
          have hr := List.getElem?_eq_getElem hla
          have IT := IV2.out k _ _ hr hx
          have hb := ext_iff.1 XX.out
          obtain ⟨g1, o1, rfl, hg1, e0, e1, e2, e3, e4⟩ := (evsAt_of EO0.out (fun k hk => hb.block k hk) hb.size).row hx
          obtain ⟨g2, o2, rfl, r0, r1, r2, r3, r4, hg2⟩ := recsAt_row (recsAt_of RA0.out (fun k hk => hb.block k hk) hb.size) hr
          generalize ok[k] = x at hx IT e0 e1 e2 e3 e4
          generalize La[k] = rc at hr IT r0 r1 r2 r3 r4
          have hps := print_short IT.right
          have hlong := IT.long
          have hright := IT.right
          have PR := fun W hW => print_any x W (by
            have := hps; have h2 := hright
            exact ⟨by omega, by have := print_sizes hright; omega, by have := print_sizes hright; omega⟩) (by have := print_sizes hright; omega) hW
          rw [hright, if_pos rfl, if_pos rfl] at PR
          have hpz : (⟨(printL x).toArray⟩ : ByteArray).size = (printL x).length := by show (printL x).toArray.size = _; rw [List.size_toArray]
          generalize (⟨(printL x).toArray⟩ : ByteArray) = pb at PR hpz
          have hp70 : pb.size ≤ 70 := by omega
          rw [← hpz] at hlong
          clear hpz hps hright IT hx hr hb
          obtain ⟨x0, x1, x2, x3, x4⟩ := x
          obtain ⟨q0, q1', q2', q3', body⟩ := rc
          unfold evV at PR
          dsimp only at PR hlong e0 e1 e2 e3 e4 r0 r1 r2 r3 r4
          have GR := Lib.hid (GW.out.ext XX.out)
          have hlt' : (k : Int) < na := by omega
          have BE := Lib.hid (ext_iff.1 XX.out)
          by_cases hk3 : x0 = 3
          · rw [if_pos hk3] at hlong
            have hk3b : (x0 != 3) = false := by simp [hk3]
            have hne : ((body.size : Int) != (pb.size : Int)) = false := by simp; omega
            clear hlong hk3
            go_wp2_with fail
            refine (PR _ GR.out.words).mono ?_
            rintro _ w11 ⟨rfl, y, rfl⟩
            have XN := Lib.hid (ext_trans XX.out ⟨y, rfl⟩)
            go_wp2_with fail
            go_roundw
            case rel => exact ⟨k + 1, hlt, by go_num, XN⟩
            case measure => simp [intOf]; omega
          · rw [if_neg hk3] at hlong
            have hk3b : (x0 != 3) = true := by simp [hk3]
            have hne : ((body.size : Int) != (pb.size : Int) + 16) = false := by simp; omega
            clear hlong hk3
            go_wp2_with fail
            refine (PR _ GR.out.words).mono ?_
            rintro _ w11 ⟨rfl, y, rfl⟩
            have XN := Lib.hid (ext_trans XX.out ⟨y, rfl⟩)
            go_wp2_with fail
            go_roundw
            case rel => exact ⟨k + 1, hlt, by go_num, XN⟩
            case measure => simp [intOf]; omega
        · obtain rfl : k = na := by omega
          go_wp2_with fail
          go_ret
          exact ⟨rfl, ext_trans X10.out XX.out⟩
theorem feedSame_law (q1 : Option Addr) (cp1 : Nat) (l : List Ev) (q2 : Option Addr) (cp2 : Nat) (m : List Ev) (w : World) (hG : Glob w none0) (hl : l.length ≤ 9223372036854775807) (_ : l.length ≤ cp1) (h1 : evsAt w q1 l) (_ : q1 = none → l.length = 0 ∧ cp1 = 0) (hm : m.length ≤ 9223372036854775807) (_ : m.length ≤ cp2) (h2 : evsAt w q2 m) (hn2 : q2 = none → m.length = 0 ∧ cp2 = 0) :
    Calls Tryz.prog 3 #[.slice q1 l.length cp1, .slice q2 m.length cp2] w (Res true w) := feedSame_any q1 cp1 l q2 cp2 m w hl hm h1 h2 hn2 hG
end Go.Proofs.YtejbeokikpoheaaGreatDoor
