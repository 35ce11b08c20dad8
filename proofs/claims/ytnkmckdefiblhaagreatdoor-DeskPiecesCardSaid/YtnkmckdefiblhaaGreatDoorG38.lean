/- A region that draws its order, an operation of which may throw: by an invariant over the operations that are done. No program. · desk: subjects, block (the walks). -/
import Derived.Test.YtnkmckdefiblhaaGreatDoorG9
import Derived.Test.YtnkmckdefiblhaaGreatDoorProg
import Derived.Test.YtnkmckdefiblhaaGreatDoorG31
import Derived.Test.YtnkmckdefiblhaaGreatDoorG25
import Derived.Laws.AppendOwnNone
namespace Go.Proofs.YtnkmckdefiblhaaGreatDoor
open Go.RowKit

section
variable {P : Program}
/-- An ordinary end, or what is thrown. -/
def EndsP (Q : Exit → Act → World → Prop) (K : Act → World → Prop) : Exit → Act → World → Prop := fun x a w => (x = .normal ∧ K a w) ∨ ((∃ c, x = .panic c) ∧ Q x a w)
theorem not_letsOut_endsP {Q : Exit → Act → World → Prop} {K : Act → World → Prop} : ¬ LetsOut (EndsP Q K) := by
  rintro ⟨_, _, h | ⟨⟨c, h⟩, _⟩⟩
  · cases h.1
  · cases h
theorem EndsP.normal {Q : Exit → Act → World → Prop} {K : Act → World → Prop} {a : Act} {w : World} (h : EndsP Q K .normal a w) : K a w := by
  rcases h with h | ⟨⟨c, h⟩, _⟩
  · exact h.2
  · cases h
theorem EndsP.panic {Q : Exit → Act → World → Prop} {K : Act → World → Prop} {a : Act} {w : World} {c : List PanicEntry} (h : EndsP Q K (.panic c) a w) : Q (.panic c) a w := by
  rcases h with h | h
  · cases h.1
  · exact h.2
theorem wpOp_of_endsP {ops : Array Oper} {Q : Exit → Act → World → Prop} {K : Act → World → Prop} {i : Nat} {o : Oper} {a : Act} {w : World} (ho : ops[i]? = some o) (h : wpList P ops (EndsP Q K) [o] a w) : wpOp P ops Q i K a w := by
  unfold wpOp
  simp only [ho]
  unfold wpList at h
  split
  · rename_i hw
    rw [if_pos hw] at h
    rcases h with h | ⟨_, h⟩
    · left
      unfold Oper.wp at h ⊢
      generalize (execOp a.eval o).run P w = r at *
      cases r with
      | ok n w' =>
        cases n <;> simp only [Oper.upon] at h ⊢ <;>
          first
            | exact h.normal
            | exact h.panic
            | exact Calls.mono h (fun e w'' he => by
                cases e with
                | returned v => exact EndsP.normal he
                | panicked c => exact EndsP.panic he
                | outgrown => exact absurd he not_letsOut_endsP)
            | exact Rows.mono h (fun _ _ he => EndsP.normal he)
      | halt x w' => cases x <;> simp only [Oper.upon] at h ⊢ <;> first | exact h | exact h.panic | exact h.normal
    · exact absurd h not_letsOut_endsP
  · rename_i hw
    rw [if_neg hw] at h
    exact h.normal
theorem EndsP.mono {Q : Exit → Act → World → Prop} {K K' : Act → World → Prop} (hk : ∀ a w, K a w → K' a w) {x : Exit} {a : Act} {w : World} (h : EndsP Q K x a w) : EndsP Q K' x a w := h.imp (fun h => ⟨h.1, hk _ _ h.2⟩) id
theorem wpList_endsP {ops : Array Oper} {Q : Exit → Act → World → Prop} {K K' : Act → World → Prop} {o : Oper} {a : Act} {w : World} (h : wpList P ops (EndsP Q K) [o] a w) (hk : ∀ a w, K a w → K' a w) : wpList P ops (EndsP Q K') [o] a w := by
  unfold wpList at h ⊢
  split
  · rename_i hw
    rw [if_pos hw] at h
    rcases h with h | ⟨_, h⟩
    · left
      unfold Oper.wp at h ⊢
      generalize (execOp a.eval o).run P w = r at *
      cases r with
      | ok n w' =>
        cases n <;> simp only [Oper.upon] at h ⊢ <;>
          first
            | exact h.mono hk
            | exact Calls.mono h (fun e w'' he => by
                cases e with
                | returned v => exact EndsP.mono hk he
                | panicked c => exact EndsP.mono hk he
                | outgrown => exact absurd he not_letsOut_endsP)
            | exact Rows.mono h (fun _ _ he => EndsP.mono hk he)
      | halt x w' => cases x <;> simp only [Oper.upon] at h ⊢ <;> first | exact h | exact h.mono hk
    · exact absurd h not_letsOut_endsP
  · rename_i hw
    rw [if_neg hw] at h
    exact h.mono hk
theorem endsP_of {ops : Array Oper} {l : List Oper} {Q0 : Exit → Act → World → Prop} {K : Act → World → Prop} {a : Act} {w : World} (h : ∀ Q : Exit → Act → World → Prop, Hid (∀ a' w', K a' w' → Q .normal a' w') → Hid (∀ c a' w', Q0 (.panic c) a' w' → Q (.panic c) a' w') → wpList P ops Q l a w) : wpList P ops (EndsP Q0 K) l a w :=
  h _ (Lib.hid fun _ _ hk => .inl ⟨rfl, hk⟩) (Lib.hid fun c _ _ hk => .inr ⟨⟨c, rfl⟩, hk⟩)
def StepP (ops : Array Oper) (Q : Exit → Act → World → Prop) (A : (Nat → Value) → Act) (d : Nat → Nat) (R : Nat → Value → World → Prop) (C : (Nat → Bool) → (Nat → Value) → World → Prop) (S : World → World → Prop) (i : Nat) (o : Oper) : Prop :=
  ∀ (L : Nat → Bool) (g : Nat → Value) (w : World), L i = false → (∀ e ∈ o.after, Region.binds .any e = true → L e.on = true) → (∀ j, L j = true → R j (g (d j)) w) → C L g w →
    wpList P ops (EndsP Q fun a' w' => ∃ v, a' = A (upd1 g (d i) v) ∧ S w w' ∧ R i v w' ∧ C (fun k => if k = i then true else L k) (upd1 g (d i) v) w') [o] (A g) w
def StepsP (ops : Array Oper) (Q : Exit → Act → World → Prop) (A : (Nat → Value) → Act) (d : Nat → Nat) (R : Nat → Value → World → Prop) (C : (Nat → Bool) → (Nat → Value) → World → Prop) (S : World → World → Prop) : Nat → List Oper → Prop
  | _, [] => True
  | i, o :: l => StepP (P := P) ops Q A d R C S i o ∧ StepsP ops Q A d R C S (i + 1) l
theorem stepsP_at {ops : Array Oper} {Q : Exit → Act → World → Prop} {A : (Nat → Value) → Act} {d : Nat → Nat} {R : Nat → Value → World → Prop} {C : (Nat → Bool) → (Nat → Value) → World → Prop} {S : World → World → Prop} :
    ∀ (l : List Oper) (k : Nat), StepsP (P := P) ops Q A d R C S k l → ∀ i o, l[i]? = some o → StepP (P := P) ops Q A d R C S (k + i) o
  | [], _, _, i, o, h => by simp at h
  | a :: l, k, hs, 0, o, h => by
    simp only [List.getElem?_cons_zero, Option.some.injEq] at h
    subst h
    exact hs.1
  | a :: l, k, hs, i + 1, o, h => by
    have := stepsP_at l (k + 1) hs.2 i o (by simpa using h)
    rwa [show k + 1 + i = k + (i + 1) by omega] at this
theorem wp_region_slotsP {id : Nat} {Q : Exit → Act → World → Prop} {a : Act} {w : World} {l : List Oper} (A : (Nat → Value) → Act) (d : Nat → Nat) (g0 : Nat → Value) (R : Nat → Value → World → Prop) (C : (Nat → Bool) → (Nat → Value) → World → Prop) (S : World → World → Prop)
    (hm : P.follows .mixedOrders = true) (hb : backB .any l.toArray = true) (ha : a = A g0) (hS : ∀ j v w w', S w w' → R j v w → R j v w') (hd : ((List.range l.length).all fun i => (List.range l.length).all fun j => i == j || d i != d j) = true)
    (hC : C (fun _ => false) g0 { w with drawn := w.drawn + 1 }) (hsteps : StepsP (P := P) l.toArray Q A d R C S 0 l)
    (hend : ∀ (L : Nat → Bool) (g : Nat → Value) (w : World), (∀ j, j < l.length → L j = true) → (∀ j, j < l.length → R j (g (d j)) w) → C L g w → Q .normal (A g) w) : (Code.region id l.toArray true).wp P Q a w := by
  refine wp_region_inv (fun listed a w => listed.size = l.length ∧ ∃ g, a = A g ∧ (∀ j, onB listed j = true → R j (g (d j)) w) ∧ C (onB listed) g w) hm hb ⟨by simp, g0, ha, ?_, ?_⟩ ?_ ?_
  · intro j hj
    exfalso
    unfold onB at hj
    rw [Array.getElem?_replicate] at hj
    split at hj <;> simp at hj
  · have : onB (Array.replicate l.length false) = fun _ => false := by
      funext k
      unfold onB
      rw [Array.getElem?_replicate]
      split <;> rfl
    rw [this]; exact hC
  · rintro listed a w i o hsz ⟨_, g, rfl, hR, hC⟩ ho hli hdeps
    have hlt : i < l.length := (List.getElem?_eq_some_iff.1 ho).1
    refine wpOp_of_endsP (o := o) (by simpa using ho) ?_
    have hst := stepsP_at l 0 hsteps i o ho
    rw [Nat.zero_add] at hst
    have hoff : onB listed i = false := by unfold onB; rw [hli]; rfl
    have h := hst (onB listed) g w hoff (fun e he hbi => by unfold onB; rw [hdeps e he hbi]; rfl) hR hC
    have hset : onB (listed.setIfInBounds i true) = fun k => if k = i then true else onB listed k := by
      funext k
      unfold onB
      by_cases hk : k = i
      · subst hk; simp [hsz, hlt]
      · simp [hk, Ne.symm hk]
    refine wpList_endsP h ?_
    rintro a' w' ⟨v, rfl, hs, hr, hc⟩
    refine ⟨by simpa using hsz, upd1 g (d i) v, rfl, ?_, by rw [hset]; exact hc⟩
    intro j hj
    rw [hset] at hj
    by_cases hji : j = i
    · subst hji; rw [upd1_same]; exact hr
    · replace hj : onB listed j = true := by simpa [hji] using hj
      have hjl : j < l.length := by
        unfold onB at hj
        rcases Nat.lt_or_ge j listed.size with h' | h'
        · omega
        · rw [Array.getElem?_eq_none h'] at hj; simp at hj
      have hd' := List.all_eq_true.1 (List.all_eq_true.1 hd j (List.mem_range.2 hjl)) i (List.mem_range.2 hlt)
      simp only [Bool.or_eq_true, beq_iff_eq, bne_iff_ne, ne_eq, hji, false_or] at hd'
      rw [upd1_other _ _ hd']
      exact hS _ _ _ _ hs (hR j hj)
  · rintro listed a w hsz hall ⟨_, g, rfl, hR, hC⟩
    have hon : ∀ j, j < l.length → onB listed j = true := fun j hj => by unfold onB; rw [hall j hj]; rfl
    exact hend _ g w hon (fun j hj => hR j (hon j hj)) hC
end
end Go.Proofs.YtnkmckdefiblhaaGreatDoor
namespace Go.Proofs.YtnkmckdefiblhaaGreatDoor
open Go.RowKit Go.Shelf

/-! ### Own slices of texts -/
theorem infoTs : (Tryz.prog.info? 9).map (fun i => (i.zero, i.size, i.bytes)) = some (some (.string ⟨#[]⟩), 1, 16) := by kernel_rfl
def ownsTs (w : World) (base : Nat) (v : Value) (l : List ByteArray) : Prop := w.ownsRow base 9 1 v l.length (l.map Value.string)
section
variable {ops : Array Oper} {rest : List Oper} {o : Oper} {a : Act} {w : World} {Q : Exit → Act → World → Prop}
/-- 'append(v, u...)'. -/
theorem append_txs (base base2 : Nat) (v u : Value) (l m : List ByteArray) (s x : Operand)
    (ho : o.op = .call { callee := .builtin .append, args := #[s, x], argTypes := #[33, 33] }) (hgd : o.guard = none) (hs : a.eval s = v) (hx : a.eval x = u)
    (hown : ownsTs w base v l) (hown2 : ownsTs w base2 u m) (hlen : l.length + m.length ≤ 1048576) (hbase : base ≤ w.heap.size)
    (h : ∀ v' w', ownsTs w' base v' (l ++ m) → w.grownBy w' v.ownBlock → wpList Tryz.prog ops Q rest (a.put o.dst v') w') :
    wpList Tryz.prog ops Q (o :: rest) a w := by
  obtain ⟨i0, hi, hz0, hz1, hz2⟩ := info_parts infoTs
  have h2 := hown2
  obtain ⟨h3, ⟨h4, h5⟩ | ⟨g, cap, cur, h4, hb, hh, hr⟩⟩ := h2
  · subst h4
    obtain rfl : m = [] := List.eq_nil_of_length_eq_zero h5
    refine wpList_append_own_none hgd s x 33 ho base 9 i0 1 Tryz.underlying33 hi v l.length (l.map Value.string) hs hown hx ?_
    refine h v w ?_ (.refl _ _)
    rw [List.append_nil]; exact hown
  · subst h4
    refine wpList_append_own _ hgd s x 33 ho base 9 i0 (.string ⟨#[]⟩) 1 16 Tryz.underlying33 hi hz0 hz1 hz2 rfl (by decide) v l.length (l.map Value.string) hs hown
      ⟨g, 0, none⟩ m.length cap (m.map Value.string) hx (by simp) ?_ (by intro u hu; obtain ⟨y, _, rfl⟩ := List.mem_map.1 hu; rfl) (by unfold maxLen; omega) (by omega) hbase ?_
    · exact hown2.cells rfl
    · intro v' w' h1 h2 _
      refine h v' w' ?_ h2
      unfold ownsTs
      rw [List.length_append, List.map_append]; exact h1
end
theorem join_len (m : Nat) : ∀ xs : List (List UInt8), (∀ x ∈ xs, x.length ≤ m) → (Lib.join xs [32]).length ≤ (m + 1) * xs.length
  | [], _ => by rw [Lib.join_nil]; simp
  | x :: r, h => by
    rw [Lib.join_cons, List.length_append, Lib.joinTail_length]
    have h1 := h x (List.mem_cons_self ..)
    have h2 : ∀ r : List (List UInt8), (∀ x ∈ r, x.length ≤ m) → Lib.lens r ≤ m * r.length := by
      intro r hr
      induction r with
      | nil => simp [Lib.lens]
      | cons y r ih =>
        have a1 := ih (fun z hz => hr z (List.mem_cons_of_mem _ hz))
        have a2 := hr y (List.mem_cons_self ..)
        unfold Lib.lens at a1 ⊢
        rw [List.map_cons, List.sum_cons, List.length_cons, Nat.mul_succ]
        omega
    have h3 := h2 r (fun z hz => h z (List.mem_cons_of_mem _ hz))
    rw [show (x :: r).length = r.length + 1 from rfl]
    have e : (m + 1) * (r.length + 1) = m * r.length + r.length + (m + 1) := by rw [Nat.mul_succ, Nat.add_mul, Nat.one_mul]
    rw [show ([32] : List UInt8).length * r.length = r.length by simp]
    omega
theorem jn_own (base : Nat) (v : Value) (l : List ByteArray) (w : World) (h : ownsTs w base v l) (hl : l.length ≤ 1048576) (hs : ∀ x ∈ l, x.size ≤ 1000) :
    Calls Tryz.prog 70 #[v, .string ⟨#[32]⟩] w fun e w' => e = .returned (.string (jnT l)) ∧ ∃ x, w' = ext w x := by
  have h0 := h
  obtain ⟨h3, ⟨h4, h5⟩ | ⟨g, cap, cur, h4, hb, hh, hr, _⟩⟩ := h
  · subst h4
    obtain rfl : l = [] := List.eq_nil_of_length_eq_zero h5
    refine (Tryz.strings_Join_none none 0 _ w).mono ?_
    rintro e w' ⟨rfl, rfl⟩
    exact ⟨rfl, ext_refl _⟩
  · subst h4
    have hj := join_len 1000 (l.map (·.data.toList)) (fun x hx => by
      obtain ⟨y, hy, rfl⟩ := List.mem_map.1 hx
      have := hs y hy
      rw [Array.length_toList]; exact this)
    rw [List.length_map] at hj
    refine (Tryz.strings_Join g 0 cap l ⟨#[32]⟩ w (fun j s hj => ?_) (lt_of_heap hh) (by omega) hr (by show (Lib.join (l.map (·.data.toList)) [32]).length ≤ _; omega)).mono ?_
    · have := World.ownsRow.cells h0 (g := g) rfl j (.string s) (by rw [List.getElem?_map, hj]; rfl)
      have hadd : (⟨g, 0, none⟩ : Addr).add j = ⟨g, 0 + j, none⟩ := by unfold Addr.add; split <;> simp_all
      rw [hadd] at this; exact this
    · rintro e w' ⟨rfl, hb⟩
      exact ⟨rfl, ext_of hb⟩
theorem subjects_row (w : World) (V : Blk) (vb n : Nat) (sec : ByteArray) (many : ByteArray → Nat) (has : ByteArray → Bool) (h : vaultIn w V vb n sec many has) (hn : n ≤ 1048575) :
    Calls Tryz.prog 71 #[.pointer (some ⟨vb, 0, none⟩)] w fun e w' => ∃ v : Value, e = .returned v ∧ (∀ x ∈ subsL has, has (mkT x) = true) ∧ (subsL has).length ≤ n ∧ ownsTs w' w.heap.size v ((subsL has).map mkT) ∧ Below w.heap.size w w' := by
  obtain ⟨mb, tb, M, T, h1, h2, h3, h4, h5⟩ := h
  refine (subjects_raw w vb mb tb n sec M T h1 (by omega)).mono ?_
  rintro e w' ⟨v, ss, rfl, hS, hlen, hrow, hb⟩
  have hmem : ∀ s : ByteArray, txt s ∈ ss ↔ has s = true := fun s => by
    rw [hS.mem_iff, List.mem_map]
    constructor
    · rintro ⟨p, hp, hk⟩
      have h6 := findS_some h1.there.once hp
      have h7 := h5 p.1
      rw [h6] at h7
      rw [← txt_inj hk]
      cases hh : has p.1 with
      | true => rfl
      | false => rw [hh, if_neg (by simp)] at h7; cases h7
    · intro hh
      have h7 := h5 s
      rw [hh, if_pos rfl] at h7
      obtain ⟨x, hx, _⟩ := Option.map_eq_some_iff.1 h7
      obtain ⟨p, hp, hk, _⟩ := findS_mem hx
      exact ⟨p, hp, hk⟩
  have hnd : ss.Nodup := by
    refine hS.symm.nodup ?_
    refine List.pairwise_map.2 ?_
    exact h1.there.once
  have hsub := subsL_eq hnd hmem
  have hsl : (sortT ss).length = ss.length := (List.mergeSort_perm ss _).length_eq
  refine ⟨v, rfl, fun x hx => ?_, by rw [hsub, hsl]; exact hlen, ?_, hb⟩
  · rw [hsub] at hx
    have := (hmem (mkT x)).1 (by rw [txt_mkT]; exact (List.mergeSort_perm ss _).mem_iff.1 hx)
    exact this
  · unfold ownsTs
    rw [hsub, List.length_map, hsl, List.map_map]
    exact hrow
set_option maxRecDepth 100000 in
set_option maxHeartbeats 4000000 in
theorem subjects_cmd (p : Option Addr) (ws : List ByteArray) (cap : Nat) (w : World) (A : Blk) (db n : Nat) (M : DkM) (h : cmdIn w A db n M p ws cap) :
    Calls Tryz.prog 46 #[.pointer (some ⟨db, 0, none⟩), .slice p ws.length cap] w (CmdPost (subjectsD M ws) w A db n) := by
  have WD := dwords_any p ws.length cap 0 w h.glob.glob.err
  by_cases hl : ws.length = 0
  case neg =>
    rw [show subjectsD M ws = (.er 3, M) from if_neg hl]
    have HP : Hid (∀ w', (∃ x, w' = ext w x) → CmdPost (.er 3, M) w A db n (.panicked (thrown 3)) w') := Lib.hid fun w' hx => .same h.dk hx rfl rfl
    generalize CmdPost (.er 3, M) w A db n = P at HP ⊢
    have hli : (ws.length : Int) ≠ 0 := by omega
    clear h hl
    go_enter Tryz.func46, Tryz.ntmps46
    go_wp2_with fail
    refine WD.mono ?_
    rintro e w1 ⟨_, he, hx⟩
    obtain rfl := he hli
    have X := Lib.hid hx
    clear hx WD he
    go_wp2_with fail
    exact ⟨rfl, HP.out _ X.out⟩
  case pos =>
    have hli := Lib.hid (show (ws.length : Int) = 0 by omega)
    rw [show subjectsD M ws = (.ok (jnT (⟨#[115, 117, 98, 106, 101, 99, 116, 115]⟩ :: (subsL M.S.has).map mkT)), M) from if_pos hl]
    have HP : Hid (∀ w', (∃ x, w' = ext w x) → CmdPost (.ok (jnT (⟨#[115, 117, 98, 106, 101, 99, 116, 115]⟩ :: (subsL M.S.has).map mkT)), M) w A db n (.returned (.string (jnT (⟨#[115, 117, 98, 106, 101, 99, 116, 115]⟩ :: (subsL M.S.has).map mkT)))) w') := Lib.hid fun w' hx => .same h.dk hx rfl rfl
    generalize CmdPost (.ok (jnT (⟨#[115, 117, 98, 106, 101, 99, 116, 115]⟩ :: (subsL M.S.has).map mkT)), M) w A db n = P at HP ⊢
    obtain ⟨own, sb, vb, mb, V, rb, q, c, H, rfl⟩ := h.dk
    have HD := Lib.hid H
    obtain ⟨c0, c1, c2, c3, c4, c5, lt⟩ := six_at H.blk
    have G := Lib.hid h.glob
    have IV := Lib.hid h.inv
    have SMW := Lib.hid h.small
    have hn := h.n_
    clear h c1 c2 c3 c4 c5
    clear hl
    go_enter Tryz.func46, Tryz.ntmps46
    go_wp2_with fail
    refine WD.mono ?_
    rintro e w1 ⟨he, _, hx⟩
    obtain rfl := he hli.out
    have X := Lib.hid hx
    clear hx WD he
    have d0 : w1.cell? ⟨db, 0, none⟩ = _ := cell_below (ext_iff.1 X.out) lt c0
    have lt1 : db < w1.heap.size := Nat.lt_of_lt_of_le lt (ext_iff.1 X.out).size
    have XA := ext_alloc (.cells #[.string ⟨#[115, 117, 98, 106, 101, 99, 116, 115]⟩] 9) (ext_refl w1)
    have OW := Lib.hid (show ownsTs (w1.alloc (.cells #[.string ⟨#[115, 117, 98, 106, 101, 99, 116, 115]⟩] 9)) w1.heap.size (.slice (some ⟨w1.heap.size, 0, none⟩) 1 1) [⟨#[115, 117, 98, 106, 101, 99, 116, 115]⟩] from
      ⟨rfl, .inr ⟨w1.heap.size, 1, _, rfl, Nat.le_refl _, heap_alloc_at w1 _, Nat.le_refl _, by unfold maxLen; omega, rfl, rfl⟩⟩)
    have X2 := Lib.hid (ext_trans X.out XA)
    have B2 := Lib.hid (show Below w1.heap.size w1 (w1.alloc (.cells #[.string ⟨#[115, 117, 98, 106, 101, 99, 116, 115]⟩] 9)) from ext_iff.1 XA)
    have e0 := cell_below (ext_iff.1 XA) lt1 d0
    have lt2 := Nat.lt_of_lt_of_le lt1 (ext_iff.1 XA).size
    have LB := Lib.hid (show w1.heap.size < (w1.alloc (.cells #[.string ⟨#[115, 117, 98, 106, 101, 99, 116, 115]⟩] 9)).heap.size by simp)
    clear d0 lt1 c0 lt XA
    go_wp2_with fail
    generalize w1.alloc (.cells #[.string ⟨#[115, 117, 98, 106, 101, 99, 116, 115]⟩] 9) = w2 at *
    have HS2 := (HD.out.ext X2.out).src
    refine (svault_any w2 V (own .f) sb vb n M.sec M.S HS2).mono ?_
    rintro _ _ ⟨rfl, rfl⟩
    have SB := subjects_row w2 V vb n M.sec M.S.many M.S.has HS2.vault.1 (by omega)
    clear HS2
    go_wp2_with fail
    refine SB.mono ?_
    rintro _ w3 ⟨v, rfl, hhas, hlen, ho, hb⟩
    have OV := Lib.hid ho
    have O3 := Lib.hid (show ownsTs w3 w1.heap.size (.slice (some ⟨w1.heap.size, 0, none⟩) 1 1) [⟨#[115, 117, 98, 106, 101, 99, 116, 115]⟩] from OW.out.kept (row := none) (grown_below hb none) (by simp [Value.ownBlock]))
    have B3 := Lib.hid (B2.out.trans (hb.mono (Nat.le_of_lt LB.out)))
    have LB3 := Lib.hid (Nat.lt_of_lt_of_le LB.out hb.size)
    have HSM := Lib.hid (show ∀ x ∈ (subsL M.S.has).map mkT, x.size ≤ 1000 from fun x hx => by
      obtain ⟨y, hy, rfl⟩ := List.mem_map.1 hx
      have := (nameB_size (IV.out.nm _ (hhas y hy))).2
      omega)
    have hml : ((subsL M.S.has).map mkT).length ≤ 1000000 := by rw [List.length_map]; omega
    generalize (subsL M.S.has).map mkT = m at *
    generalize hb1 : w1.heap.size = b1 at *
    have HB1 := Lib.hid hb1
    clear hb1
    clear hhas hlen ho hb SB OW e0 lt2
    have hvl : ([⟨#[115, 117, 98, 106, 101, 99, 116, 115]⟩] : List ByteArray).length + m.length ≤ 1048576 := by rw [List.length_singleton]; omega
    have hb7 := Nat.le_of_lt LB3.out
    go_wp2_with (at_builtin; go_must (refine append_txs b1 w2.heap.size _ _ [⟨#[115, 117, 98, 106, 101, 99, 116, 115]⟩] m (.tmp 7) (.tmp 13) rfl rfl rfl rfl O3.out OV.out hvl hb7 ?_); intro v4 w4 O4 g4)
    have JO := jn_own b1 v4 ([⟨#[115, 117, 98, 106, 101, 99, 116, 115]⟩] ++ m) w4 O4 (by rw [List.length_append, List.length_singleton]; omega) (fun x hx => by
      rcases List.mem_append.1 hx with h | h
      · rw [List.mem_singleton.1 h]; decide
      · exact HSM.out x h)
    have X4 := Lib.hid (ext_trans X.out (ext_of (by rw [HB1.out]; exact B3.out.grown g4 (Nat.le_of_lt LB3.out) (by intro j hj; have hj : some b1 = some j := hj; injection hj with hj; omega))))
    clear O4 g4
    go_wp2_with fail
    refine JO.mono ?_
    rintro _ w5 ⟨rfl, hx⟩
    have X5 := Lib.hid (ext_trans X4.out hx)
    clear hx JO
    go_wp2_with fail
    exact HP.out _ X5.out
end Go.Proofs.YtnkmckdefiblhaaGreatDoor
