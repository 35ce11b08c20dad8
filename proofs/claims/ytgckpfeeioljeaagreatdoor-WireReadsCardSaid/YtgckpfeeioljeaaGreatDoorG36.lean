/- The reference's numbers: times, above, root, primes, New (the walks). · The reference's numbers: primes, New (the walks). · oublietteref.R.Sum (the walk). · oublietteref.Block (the walk). · oublietteref.Xor (the walk). · oubliettelaw.StreamBlocks (the walk). · oublietteref.R.Mark, Seal, Unseal (the walks). · oublietteref.Name (the walk). -/
import Derived.Test.YtgckpfeeioljeaaGreatDoorProg
import Derived.Test.YtgckpfeeioljeaaGreatDoorG11
import Derived.Test.YtgckpfeeioljeaaGreatDoorG34
import Derived.Test.YtgckpfeeioljeaaGreatDoorG35
import Derived.Deep.MidRow
import Derived.Test.YtgckpfeeioljeaaGreatDoorG7
import Derived.Test.YtgckpfeeioljeaaGreatDoorG13
import Derived.Test.YtgckpfeeioljeaaGreatDoorG18
import Derived.Test.YtgckpfeeioljeaaGreatDoorG1
import Derived.Test.YtgckpfeeioljeaaGreatDoorG8
namespace Go.Proofs.YtgckpfeeioljeaaGreatDoor
open Go.RowKit

theorem vint {K : IntKind} {a b : Int} (h : a = b) : Value.int K a = Value.int K b := by rw [h]
def lenS : Value → Nat
  | .slice _ n _ => n
  | _ => 0
theorem info64 : (Tryz.prog.info? 159).map (fun i => (i.zero, i.size, i.bytes)) = some (some (.int .u64 0), 1, 8) := by kernel_rfl
theorem infoI : (Tryz.prog.info? 3).map (fun i => (i.zero, i.size, i.bytes)) = some (some (.int .i64 0), 1, 8) := by kernel_rfl
def timesIs (l : List Nat) (x : Nat) (out : List Nat) : Prop := small out ∧ limbs out = limbs l * x ∧ l.length ≤ out.length ∧ out.length ≤ l.length + 3
def TimesPost (l : List Nat) (x : Nat) (w : World) (r : Ending) (w' : World) : Prop :=
  ∃ v out, r = .returned v ∧ timesIs l x out ∧ ownsN w' w.heap.size 159 .u64 v out ∧ ∃ x, w' = ext w x
/-- How far the product is. -/
def carryAt (n i c : Nat) : Prop := (i ≤ n ∧ c ≤ 1099511627776) ∨ (i = n + 1 ∧ c ≤ 16777216) ∨ (i = n + 2 ∧ c ≤ 256) ∨ (i = n + 3 ∧ c = 0)

end Go.Proofs.YtgckpfeeioljeaaGreatDoor
namespace Go.Proofs.YtgckpfeeioljeaaGreatDoor
open Go.RowKit

def PrimesPost (w : World) (r : Ending) (w' : World) : Prop := ∃ v, r = .returned v ∧ ownsN w' w.heap.size 3 .i64 v primes64 ∧ ∃ x, w' = ext w x
def apartB (k : Nat) (l : List Nat) : Bool := l.all fun p => k % p != 0
theorem apartB_take (k : Nat) (l : List Nat) (q : Nat) (h : q < l.length) : apartB k (l.take (q + 1)) = (apartB k (l.take q) && (k % l[q] != 0)) := by
  unfold apartB; rw [List.take_succ_eq_append_getElem h, List.all_append]; simp
theorem primesTo_step (j : Nat) : primesTo (j + 1) = if apartB (j + 2) (primesTo j) then primesTo j ++ [j + 2] else primesTo j := rfl

/-- The first numbers of R, as far as they are reckoned. -/
def newTo (a c : Nat) : Nat → BitVec 32 := fun j => if j < 8 then (if j < a then ivW j else 0) else if j - 8 < c then K256 (j - 8) else 0
theorem newTo_k (a c : Nat) : upd (newTo a c) (8 + c) (K256 c) = newTo a (c + 1) := by
  funext j
  unfold upd newTo
  by_cases h : j = 8 + c
  · subst h; rw [if_pos rfl, if_neg (by omega), if_pos (by omega)]; congr 1; omega
  · rw [if_neg h]
    by_cases h8 : j < 8
    · rw [if_pos h8, if_pos h8]
    · rw [if_neg h8, if_neg h8]
      by_cases h2 : j - 8 < c
      · rw [if_pos h2, if_pos (by omega)]
      · rw [if_neg h2, if_neg (by omega)]
theorem newTo_h (a c : Nat) (ha : a < 8) : upd (newTo a c) a (ivW a) = newTo (a + 1) c := by
  funext j
  unfold upd newTo
  by_cases h : j = a
  · subst h; rw [if_pos rfl, if_pos ha, if_pos (by omega)]
  · rw [if_neg h]
    by_cases h8 : j < 8
    · rw [if_pos h8, if_pos h8]
      by_cases h2 : j < a
      · rw [if_pos h2, if_pos (by omega)]
      · rw [if_neg h2, if_neg (by omega)]
    · rw [if_neg h8, if_neg h8]
theorem newTo_over (a c : Nat) (ha : 8 ≤ a) : newTo a c = newTo (a + 1) c := by
  funext j
  unfold newTo
  by_cases h8 : j < 8
  · rw [if_pos h8, if_pos h8, if_pos (by omega), if_pos (by omega)]
  · rw [if_neg h8, if_neg h8]
/-- The numbers of FIPS 180-4. -/
def refR : Nat → BitVec 32 := newTo 64 64
theorem cubesK : (List.range 64).all (fun q => BitVec.ofNat 32 (cubes64.getD q 0) == K256 q) = true := by decide +kernel
theorem squaresIv : (List.range 8).all (fun q => BitVec.ofNat 32 (squares8.getD q 0) == ivW q) = true := by decide +kernel
theorem primes_small : (List.range 64).all (fun q => decide (primes64.getD q 0 ≤ 311)) = true := by decide +kernel

end Go.Proofs.YtgckpfeeioljeaaGreatDoor
namespace Go.Proofs.YtgckpfeeioljeaaGreatDoor
open Go.RowKit

theorem refR_h (j : Nat) (h : j < 8) : refR j = ivW j := by unfold refR newTo; rw [if_pos h, if_pos (by omega)]
theorem refR_k (j : Nat) (h : j < 64) : refR (8 + j) = K256 j := by unfold refR newTo; rw [if_neg (by omega), if_pos (by omega), show 8 + j - 8 = j by omega]
/-- The words, as they are laid one behind the other. -/
def wAt (l : List UInt8) (t : Nat) : Nat → BitVec 32 := if t ≤ 16 then wordsTo l t else sched (wordsTo l 16) (t - 16)
theorem wAt_low (l : List UInt8) (t : Nat) (h : t ≤ 16) : wAt l t = wordsTo l t := if_pos h
theorem wAt_high (l : List UInt8) (t : Nat) (h : 16 ≤ t) : wAt l t = sched (wordsTo l 16) (t - 16) := by
  unfold wAt
  by_cases e : t ≤ 16
  · obtain rfl : t = 16 := by omega
    rw [if_pos e]; rfl
  · rw [if_neg e]
theorem upd_id {α : Type} (F : Nat → α) (i : Nat) (v : α) (h : F i = v) : upd F i v = F := by
  funext j; unfold upd; split
  · rename_i e; rw [e, h]
  · rfl
theorem upd_upd {α : Type} (F : Nat → α) (i : Nat) (v u : α) : upd (upd F i v) i u = upd F i u := by
  funext j; unfold upd; split <;> rfl
theorem part_get (D : List UInt8) (k i : Nat) (h : i < 64) : (part64 D k).getD i 0 = D.getD (64 * k + i) 0 := by
  unfold part64
  simp only [List.getD_eq_getElem?_getD]
  rw [List.getElem?_take_of_lt h, List.getElem?_drop]

theorem row8' (V : Nat → BitVec 32) : row32 8 V = #[.int .u32 (val (V 0)), .int .u32 (val (V 1)), .int .u32 (val (V 2)), .int .u32 (val (V 3)), .int .u32 (val (V 4)), .int .u32 (val (V 5)), .int .u32 (val (V 6)), .int .u32 (val (V 7))] := rfl
theorem string_of_be4 (w : World) (x : BitVec 32) : (convert 118 9 (.slice (some ⟨w.heap.size, 0, none⟩) 4 4)).run Tryz.prog (w.alloc (.cells #[.int .u8 (val x / 16777216 % 256), .int .u8 (val x / 65536 % 256), .int .u8 (val x / 256 % 256), .int .u8 (val x % 256)] 5)) =
    .ok (.string ⟨(be4 x).toArray⟩) (w.alloc (.cells #[.int .u8 (val x / 16777216 % 256), .int .u8 (val x / 65536 % 256), .int .u8 (val x / 256 % 256), .int .u8 (val x % 256)] 5)) := by
  rw [be4_cells]
  exact string_of_own (ownsC_row (base := w.heap.size) (w := w.alloc (.cells (rowB (be4 x) #[]) 5)) (g := w.heap.size) (cap := 4) (l := be4 x) (sp := #[]) (t := 5) (fz := (0, 0)) (heap_alloc_at _ _) (Nat.le_refl _) (by simp [rowB, B8, be4]) (by unfold maxLen; omega) (Or.inr rfl))

end Go.Proofs.YtgckpfeeioljeaaGreatDoor
namespace Go.Proofs.YtgckpfeeioljeaaGreatDoor
open Go.RowKit

def exp16 : List UInt8 := [101, 120, 112, 97, 110, 100, 32, 51, 50, 45, 98, 121, 116, 101, 32, 107]
def lst16 (A : Nat → BitVec 32) : List Nat := (List.range 16).map fun j => (A j).toNat
theorem lst16_length (A : Nat → BitVec 32) : (lst16 A).length = 16 := by simp [lst16]
theorem start_is (key nonce : List UInt8) (n : Nat) : wordsL (exp16 ++ key) 12 ++ [(BitVec.ofNat 32 n).toNat] ++ wordsL nonce 3 = lst16 (nonced key n nonce 3) := by
  have hA : ∀ j, wordAt (exp16 ++ key) (16 + j) = wordAt key j := fun j => by
    unfold wordAt
    have g : ∀ i, (exp16 ++ key).getD (16 + i) 0 = key.getD i 0 := fun i => by
      simp only [List.getD_eq_getElem?_getD]
      rw [List.getElem?_append_right (by simp [exp16])]
      simp [exp16]
    rw [show 16 + j + 1 = 16 + (j + 1) by omega, show 16 + j + 2 = 16 + (j + 2) by omega, show 16 + j + 3 = 16 + (j + 3) by omega, g, g, g, g]
  have h0 : wordAt (exp16 ++ key) 0 = consts 0 := by show wordAt exp16 0 = _; decide
  have h1 : wordAt (exp16 ++ key) 4 = consts 1 := by show wordAt exp16 4 = _; decide
  have h2 : wordAt (exp16 ++ key) 8 = consts 2 := by show wordAt exp16 8 = _; decide
  have h3 : wordAt (exp16 ++ key) 12 = consts 3 := by show wordAt exp16 12 = _; decide
  show [(wordAt (exp16 ++ key) 0).toNat, (wordAt (exp16 ++ key) 4).toNat, (wordAt (exp16 ++ key) 8).toNat, (wordAt (exp16 ++ key) 12).toNat, (wordAt (exp16 ++ key) (16 + 0)).toNat, (wordAt (exp16 ++ key) (16 + 4)).toNat, (wordAt (exp16 ++ key) (16 + 8)).toNat, (wordAt (exp16 ++ key) (16 + 12)).toNat,
    (wordAt (exp16 ++ key) (16 + 16)).toNat, (wordAt (exp16 ++ key) (16 + 20)).toNat, (wordAt (exp16 ++ key) (16 + 24)).toNat, (wordAt (exp16 ++ key) (16 + 28)).toNat, (BitVec.ofNat 32 n).toNat, (wordAt nonce 0).toNat, (wordAt nonce 4).toNat, (wordAt nonce 8).toNat] = _
  rw [h0, h1, h2, h3]
  simp only [hA]
  rfl
/-- A slice of words as a row. -/
theorem ownsN_rowS {w : World} {base : Nat} {E : TypeId} {v : Value} {A : Nat → BitVec 32} (h : ownsN w base E .u32 v (lst16 A)) :
    ∃ g cap sp, v = .slice (some ⟨g, 0, none⟩) 16 cap ∧ base ≤ g ∧ w.heap[g]? = some (.cells (rowS 16 A sp) E (0, 0)) ∧ cap ≤ maxLen ∧ 16 ≤ cap := by
  obtain ⟨hl, ⟨rfl, h0⟩ | ⟨g, cap, cur, rfl, hb, hh, hn, hc, hsz, hx⟩⟩ := h
  · rw [lst16_length] at h0; cases h0
  · rw [lst16_length] at hx hn ⊢
    refine ⟨g, cap, (cur.toList.drop 16).toArray, rfl, hb, ?_, hc, hn⟩
    have e : cur = rowS 16 A (cur.toList.drop 16).toArray := by
      apply Array.toList_inj.1
      unfold rowS
      rw [Array.toList_append]
      have e2 : (row32 16 A).toList = numsV .u32 (lst16 A) := rfl
      rw [e2, ← hx, Nat.mul_one, List.take_append_drop]
    rw [← e]; exact hh
theorem ownsN_of_rowS {w : World} {base g cap : Nat} {E : TypeId} {A : Nat → BitVec 32} {sp : Array Value} (h : w.heap[g]? = some (.cells (rowS 16 A sp) E (0, 0))) (hb : base ≤ g) (hc : cap ≤ maxLen) (h16 : 16 ≤ cap) (hs : (rowS 16 A sp).size = cap) :
    ownsN w base E .u32 (.slice (some ⟨g, 0, none⟩) 16 cap) (lst16 A) := by
  have hl : (lst16 A).length = 16 := lst16_length A
  refine ⟨by rw [numsV_length, Nat.mul_one], .inr ⟨g, cap, rowS 16 A sp, by rw [hl], hb, h, by rw [hl]; exact h16, hc, by rw [hs, Nat.mul_one], ?_⟩⟩
  have e2 : (row32 16 A).toList = numsV .u32 (lst16 A) := rfl
  unfold rowS
  rw [Array.toList_append, ← e2, hl]
  rw [List.take_left' (by simp [row32, row])]

theorem byte_of_shift (X : BitVec 32) (j : Nat) : val (X >>> (8 * j)) % 256 = ((byteAt X (8 * j)).toNat : Int) := by
  rw [byteAt_val, shr32]
theorem word_of_shift (X : BitVec 32) (j : Nat) : val (X >>> (8 * j)) / 256 = val (X >>> (8 * (j + 1))) := by
  rw [← shr32, ← shr32, Int.ediv_ediv_of_nonneg (Int.le_of_lt (Int.pow_pos (by decide))), show (256 : Int) = 2 ^ 8 from rfl, ← Int.pow_add]; rfl
theorem le4_take (X : BitVec 32) (j : Nat) (h : j < 4) (L : List UInt8) : L ++ (le4 X).take (j + 1) = L ++ (le4 X).take j ++ [byteAt X (8 * j)] := by
  rw [List.append_assoc]
  match j, h with
  | 0, _ => rfl
  | 1, _ => rfl
  | 2, _ => rfl
  | 3, _ => rfl
theorem string_of_byte (w : World) (b : UInt8) : (convert 118 9 (.slice (some ⟨w.heap.size, 0, none⟩) 1 1)).run Tryz.prog (w.alloc (.cells #[.int .u8 (b.toNat : Int)] 5)) = .ok (.string ⟨#[b]⟩) (w.alloc (.cells #[.int .u8 (b.toNat : Int)] 5)) :=
  string_of_own (ownsC_row (base := w.heap.size) (w := w.alloc (.cells (rowB [b] #[]) 5)) (g := w.heap.size) (cap := 1) (l := [b]) (sp := #[]) (t := 5) (fz := (0, 0)) (heap_alloc_at _ _) (Nat.le_refl _) (by simp [rowB, B8]) (by unfold maxLen; omega) (Or.inr rfl))
/-- A round of the reference's: columns, diagonals, in turn. -/
def half (k : Nat) (A : Nat → BitVec 32) (i : Nat) : Nat → BitVec 32 := if k % 2 = 1 then diags A i else cols A i
def halves (A : Nat → BitVec 32) : Nat → (Nat → BitVec 32)
  | 0 => A
  | k + 1 => half k (halves A k) 4
theorem halves_rounds (A : Nat → BitVec 32) (k : Nat) : halves A (2 * k) = rounds A k := by
  induction k with
  | zero => rfl
  | succ k ih =>
    show half (2 * k + 1) (half (2 * k) (halves A (2 * k)) 4) 4 = _
    rw [ih]
    unfold half
    rw [if_pos (by omega), if_neg (by omega)]
    rfl

end Go.Proofs.YtgckpfeeioljeaaGreatDoor
namespace Go.Proofs.YtgckpfeeioljeaaGreatDoor
open Go.RowKit

/-- The first m blocks, from number 1 on. -/
def blocksB (key nonce : List UInt8) (m : Nat) : List UInt8 := (List.range m).flatMap fun j => block key (1 + j) nonce
theorem blocksB_succ (key nonce : List UInt8) (m : Nat) : blocksB key nonce (m + 1) = blocksB key nonce m ++ block key (1 + m) nonce := by simp [blocksB, List.range_succ]
theorem blocksB_length (key nonce : List UInt8) (m : Nat) : (blocksB key nonce m).length = 64 * m := by
  induction m with
  | zero => rfl
  | succ m ih => rw [blocksB_succ, List.length_append, ih, block_length]; omega
theorem blocksB_get (key nonce : List UInt8) (m i : Nat) (h : i < 64 * m) : (blocksB key nonce m).getD i 0 = streamAt key nonce i := by
  induction m with
  | zero => omega
  | succ m ih =>
    rw [blocksB_succ, List.getD_eq_getElem?_getD]
    by_cases hi : i < 64 * m
    · rw [List.getElem?_append_left (by rw [blocksB_length]; exact hi), ← List.getD_eq_getElem?_getD, ih hi]
    · rw [List.getElem?_append_right (by rw [blocksB_length]; omega), blocksB_length, ← List.getD_eq_getElem?_getD]
      unfold streamAt
      rw [show i / 64 = m by omega, show i % 64 = i - 64 * m by omega]

end Go.Proofs.YtgckpfeeioljeaaGreatDoor
namespace Go.Proofs.YtgckpfeeioljeaaGreatDoor
open Go.RowKit

/-- An Errno as an error. -/
def errOf (e : Int) : Value := if e = 0 then .nilIface else errV e
theorem errOf_is (e : Int) : IsErr (errOf e) := by
  unfold errOf; split
  · exact .nil
  · exact .no e
theorem errOf_num (e : Int) : (errNum (errOf e) == e) = true := by
  unfold errOf; split
  · rename_i h; rw [h]; rfl
  · exact beq_self_eq_true e
def okB (key nonce : ByteArray) (n : Int) : Prop := key.size = 32 ∧ nonce.size = 12 ∧ 0 ≤ n ∧ n < 4294967296
instance (key nonce : ByteArray) (n : Int) : Decidable (okB key nonce n) := by unfold okB; exact inferInstance
/-- What a block is, and what is wrong. -/
def blockR (key : ByteArray) (n : Int) (nonce : ByteArray) : List UInt8 × Int := if okB key nonce n then (block key.data.toList n.toNat nonce.data.toList, 0) else ([], 1)
theorem block_all (key nonce : ByteArray) (n : Int) (w : World) :
    Calls Tryz.prog 81 #[.string key, .int .i64 n, .string nonce] w fun r w' => r = .returned (.tuple #[.string ⟨(blockR key n nonce).1.toArray⟩, errOf (blockR key n nonce).2]) ∧ ∃ x, w' = ext w x := by
  unfold blockR
  by_cases h : okB key nonce n
  · rw [if_pos h]
    obtain ⟨h1, h2, h3, h4⟩ := h
    exact block_any key nonce n.toNat w h1 h2 (by omega) n (by omega)
  · rw [if_neg h]
    refine (block_bad key nonce n w h).mono ?_
    rintro _ _ ⟨rfl, hx⟩; exact ⟨rfl, hx⟩
/-- What a text is together with blocks, and what is wrong. -/
def xorR (key nonce s : ByteArray) : List UInt8 × Int := if key.size = 32 ∧ nonce.size = 12 then (xorB key.data.toList nonce.data.toList s.data.toList, 0) else ([], 1)
theorem xor_all (key nonce s : ByteArray) (w : World) (hs : s.size ≤ 1048576) :
    Calls Tryz.prog 83 #[.string key, .string nonce, .string s] w fun r w' => r = .returned (.tuple #[.string ⟨(xorR key nonce s).1.toArray⟩, errOf (xorR key nonce s).2]) ∧ ∃ x, w' = ext w x := by
  unfold xorR
  by_cases h : key.size = 32 ∧ nonce.size = 12
  · rw [if_pos h]; exact xor_any key nonce s w h.1 h.2 hs
  · rw [if_neg h]
    refine (xor_bad key nonce s w h hs).mono ?_
    rintro _ _ ⟨rfl, hx⟩; exact ⟨rfl, hx⟩

end Go.Proofs.YtgckpfeeioljeaaGreatDoor
namespace Go.Proofs.YtgckpfeeioljeaaGreatDoor
open Go.RowKit

theorem texts4' (w : World) (a b c d : ByteArray) (t : TypeId) : textsAt (w.alloc (.cells #[.string a, .string b, .string c, .string d] t)) (some ⟨w.heap.size, 0, none⟩) [a, b, c, d] := by
  intro j u hj
  refine ⟨w.heap.size, 0, rfl, by simp, ?_⟩
  rw [Nat.zero_add, World.cell?_alloc_new]
  match j, hj with
  | 0, hj => cases hj; rfl
  | 1, hj => cases hj; rfl
  | 2, hj => cases hj; rfl
  | 3, hj => cases hj; rfl
  | (j + 4), hj => simp at hj
/-- What is sealed, and what is wrong. -/
def sealR (key nonce wth text : ByteArray) : List UInt8 × Int := if 400 < text.size then ([], 4) else if key.size = 32 ∧ nonce.size = 12 then (sealB key nonce wth text, 0) else ([], 1)
theorem seal_all (key nonce wth text : ByteArray) (w : World) (hw : wth.size ≤ 1048576) (hR : Rounds w) :
    Calls Tryz.prog 75 #[.string key, .string nonce, .string wth, .string text] w fun r w' => r = .returned (.tuple #[.string ⟨(sealR key nonce wth text).1.toArray⟩, errOf (sealR key nonce wth text).2]) ∧ ∃ x, w' = ext w x := by
  unfold sealR
  by_cases h : 400 < text.size
  · rw [if_pos h]
    refine (seal_long key nonce wth text w h).mono ?_
    rintro _ _ ⟨rfl, hx⟩; exact ⟨rfl, hx⟩
  · rw [if_neg h]
    by_cases hk : key.size = 32 ∧ nonce.size = 12
    · rw [if_pos hk]; exact seal_any key nonce wth text w (by omega) hk.1 hk.2 hw hR
    · rw [if_neg hk]
      refine (seal_bad key nonce wth text w (by omega) hk).mono ?_
      rintro _ _ ⟨rfl, hx⟩; exact ⟨rfl, hx⟩
instance (key nonce wth s : ByteArray) : Decidable (opens key nonce wth s) := by unfold opens; exact inferInstance
/-- What is opened, and what is wrong. -/
def openR (key nonce wth s : ByteArray) : List UInt8 × Int := if key.size = 32 ∧ nonce.size = 12 then (if opens key nonce wth s then (openB key nonce s, 0) else ([], 15)) else ([], 1)
theorem open_all (key nonce wth s : ByteArray) (w : World) (hw : wth.size ≤ 1048576) (hR : Rounds w) :
    Calls Tryz.prog 57 #[.string key, .string nonce, .string wth, .string s] w fun r w' => r = .returned (.tuple #[.string ⟨(openR key nonce wth s).1.toArray⟩, errOf (openR key nonce wth s).2]) ∧ ∃ x, w' = ext w x := by
  unfold openR
  by_cases hk : key.size = 32 ∧ nonce.size = 12
  · rw [if_pos hk]
    by_cases h : opens key nonce wth s
    · rw [if_pos h]; exact open_any key nonce wth s w hk.1 hk.2 hw hR h
    · rw [if_neg h]
      refine (open_spoilt key nonce wth s w hk.1 hk.2 hw hR h).mono ?_
      rintro _ _ ⟨rfl, hx⟩; exact ⟨rfl, hx⟩
  · rw [if_neg hk]
    refine (open_bad key nonce wth s w hk).mono ?_
    rintro _ _ ⟨rfl, hx⟩; exact ⟨rfl, hx⟩
end Go.Proofs.YtgckpfeeioljeaaGreatDoor
namespace Go.Proofs.YtgckpfeeioljeaaGreatDoor
open Go.RowKit

/-- What stands at a place of a name. -/
def plaB (l : List UInt8) (i : Nat) : Bool := letterB (l.getD i 0) || (decide (i ≠ 0) && digitB (l.getD i 0))
theorem nameB_is (l : List UInt8) : nameB l = (decide (1 ≤ l.length ∧ l.length ≤ 10) && decide (∀ i, i < l.length → plaB l i = true)) := by
  cases l with
  | nil => rfl
  | cons a l =>
    rw [Bool.eq_iff_iff]
    unfold nameB
    simp only [Bool.and_eq_true, decide_eq_true_eq, List.isEmpty_cons, Bool.not_false, List.headD_cons, List.all_eq_true, true_and]
    constructor
    · rintro ⟨⟨h1, h2⟩, h3⟩
      refine ⟨⟨by simp, h1⟩, fun i hi => ?_⟩
      unfold plaB
      cases i with
      | zero => rw [List.getD_cons_zero, h2]; rfl
      | succ i =>
        have hm : (a :: l).getD (i + 1) 0 ∈ a :: l := by
          rw [List.getD_eq_getElem?_getD, List.getElem?_eq_getElem hi]; exact List.getElem_mem hi
        have := h3 _ hm
        simpa using this
    · rintro ⟨⟨_, h1⟩, h2⟩
      refine ⟨⟨h1, ?_⟩, fun x hx => ?_⟩
      · have := h2 0 (by simp)
        simpa [plaB] using this
      · obtain ⟨i, hi, rfl⟩ := List.getElem_of_mem hx
        have := h2 i hi
        unfold plaB at this
        rw [List.getD_eq_getElem?_getD, List.getElem?_eq_getElem hi, Option.getD_some] at this
        rw [Bool.or_eq_true, Bool.and_eq_true] at this
        rw [Bool.or_eq_true]
        rcases this with h | h
        · exact .inl h
        · exact .inr h.2
theorem name_bad {l : List UInt8} {i : Nat} (hi : i < l.length) (h : plaB l i = false) : nameB l = false := by
  rw [nameB_is]
  rw [show decide (∀ i, i < l.length → plaB l i = true) = false from decide_eq_false (fun hh => by rw [hh i hi] at h; exact absurd h (by decide)), Bool.and_false]
theorem name_end {l : List UInt8} (h : ∀ i, i < l.length → plaB l i = true) : nameB l = decide (1 ≤ l.length ∧ l.length ≤ 10) := by
  rw [nameB_is, show decide (∀ i, i < l.length → plaB l i = true) = true by rw [decide_eq_true_iff]; exact h, Bool.and_true]

end Go.Proofs.YtgckpfeeioljeaaGreatDoor
