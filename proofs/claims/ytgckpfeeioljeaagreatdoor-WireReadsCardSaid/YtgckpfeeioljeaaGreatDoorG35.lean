/- oublietteref.in, long, words, Block (the walks). · oublietteref's sum: its words are the program's; rot, Num (the walks). · Primes, and roots of numbers, as the reference reckons them: plain lemmas. No program. -/
import Derived.Test.YtgckpfeeioljeaaGreatDoorProg
import Derived.Test.YtgckpfeeioljeaaGreatDoorG34
import Derived.Test.YtgckpfeeioljeaaGreatDoorG9
import Derived.Test.YtgckpfeeioljeaaGreatDoorG11
import Derived.Test.YtgckpfeeioljeaaGreatDoorWords
namespace Go.Proofs.YtgckpfeeioljeaaGreatDoor
open Go.RowKit

/-- The first m words. -/
def wordsL (l : List UInt8) (m : Nat) : List Nat := (List.range m).map fun i => (wordAt l (4 * i)).toNat
theorem wordsL_succ (l : List UInt8) (m : Nat) : wordsL l (m + 1) = wordsL l m ++ [(wordAt l (4 * m)).toNat] := by simp [wordsL, List.range_succ]
theorem wordsL_length (l : List UInt8) (m : Nat) : (wordsL l m).length = m := by simp [wordsL]
theorem info32 : (Tryz.prog.info? 166).map (fun i => (i.zero, i.size, i.bytes)) = some (some (.int .u32 0), 1, 4) := by kernel_rfl
theorem wordAt_sum (l : List UInt8) (k : Nat) : val (wordAt l k) = (l.getD k 0).toNat + 256 * (l.getD (k + 1) 0).toNat + 65536 * (l.getD (k + 2) 0).toNat + 16777216 * (l.getD (k + 3) 0).toNat := by
  unfold wordAt
  have h0 := (l.getD k 0).toNat_lt
  have h1 := (l.getD (k + 1) 0).toNat_lt
  have h2 := (l.getD (k + 2) 0).toNat_lt
  have h3 := (l.getD (k + 3) 0).toNat_lt
  generalize (l.getD k 0).toNat = a at *
  generalize (l.getD (k + 1) 0).toNat = b at *
  generalize (l.getD (k + 2) 0).toNat = c at *
  generalize (l.getD (k + 3) 0).toNat = d at *
  unfold val
  simp only [BitVec.toNat_or, BitVec.toNat_shiftLeft, BitVec.toNat_ofNat]
  have e : ∀ x : Nat, x < 256 → x % 2 ^ 32 = x := fun x hx => Nat.mod_eq_of_lt (Nat.lt_of_lt_of_le hx (by decide))
  rw [e a h0, e b h1, e c h2, e d h3]
  have e1 : b <<< 8 % 2 ^ 32 = b <<< 8 := by rw [Nat.shiftLeft_eq]; exact Nat.mod_eq_of_lt (by show b * 256 < 4294967296; omega)
  have e2 : c <<< 16 % 2 ^ 32 = c <<< 16 := by rw [Nat.shiftLeft_eq]; exact Nat.mod_eq_of_lt (by show c * 65536 < 4294967296; omega)
  have e3 : d <<< 24 % 2 ^ 32 = d <<< 24 := by rw [Nat.shiftLeft_eq]; exact Nat.mod_eq_of_lt (by show d * 16777216 < 4294967296; omega)
  rw [e1, e2, e3]
  have f1 : a ||| b <<< 8 = b <<< 8 + a := by rw [Nat.or_comm]; exact (Nat.shiftLeft_add_eq_or_of_lt (by simpa using h0) b).symm
  have f2 : (b <<< 8 + a) ||| c <<< 16 = c <<< 16 + (b <<< 8 + a) := by
    rw [Nat.or_comm]; exact (Nat.shiftLeft_add_eq_or_of_lt (by rw [Nat.shiftLeft_eq]; show b * 256 + a < 65536; omega) c).symm
  have f3 : (c <<< 16 + (b <<< 8 + a)) ||| d <<< 24 = d <<< 24 + (c <<< 16 + (b <<< 8 + a)) := by
    rw [Nat.or_comm]; exact (Nat.shiftLeft_add_eq_or_of_lt (by rw [Nat.shiftLeft_eq, Nat.shiftLeft_eq]; show c * 65536 + (b * 256 + a) < 16777216; omega) d).symm
  rw [f1, f2, f3, Nat.shiftLeft_eq, Nat.shiftLeft_eq, Nat.shiftLeft_eq]
  show ((d * 16777216 + (c * 65536 + (b * 256 + a)) : Nat) : Int) = _
  omega
def WordsPost (l : List UInt8) (m : Nat) (w : World) (r : Ending) (w' : World) : Prop := ∃ v, r = .returned v ∧ ownsN w' w.heap.size 166 .u32 v (wordsL l m) ∧ ∃ x, w' = ext w x

end Go.Proofs.YtgckpfeeioljeaaGreatDoor
namespace Go.Proofs.YtgckpfeeioljeaaGreatDoor
open Go.RowKit

theorem rot_apart (x : BitVec 32) (n : Nat) (h1 : n < 32) : x >>> n &&& x <<< (32 - n) = 0#32 := by
  apply BitVec.eq_of_getLsbD_eq
  intro i hi
  simp only [BitVec.getLsbD_and, BitVec.getLsbD_ushiftRight, BitVec.getLsbD_shiftLeft, BitVec.getLsbD_zero]
  by_cases h : i < 32 - n
  · simp [h]
  · rw [BitVec.getLsbD_of_ge x (n + i) (by omega)]; rfl
theorem rot_add (x : BitVec 32) (n : Nat) (h1 : n < 32) : x >>> n + x <<< (32 - n) = rotr x n := by
  unfold rotr
  exact BitVec.add_eq_or_of_and_eq_zero _ _ (rot_apart x n h1)
theorem ch_is (e f g : BitVec 32) : g ^^^ (e &&& (f ^^^ g)) = e &&& f ^^^ ~~~e &&& g := by
  apply BitVec.eq_of_getLsbD_eq
  intro i hi
  simp only [BitVec.getLsbD_and, BitVec.getLsbD_xor, BitVec.getLsbD_not, hi, decide_true, Bool.true_and]
  cases e.getLsbD i <;> cases f.getLsbD i <;> cases g.getLsbD i <;> rfl
theorem maj_is (a b c : BitVec 32) : (a &&& b) ||| (c &&& (a ||| b)) = a &&& b ^^^ a &&& c ^^^ b &&& c := by
  apply BitVec.eq_of_getLsbD_eq
  intro i hi
  simp only [BitVec.getLsbD_and, BitVec.getLsbD_xor, BitVec.getLsbD_or]
  cases a.getLsbD i <;> cases b.getLsbD i <;> cases c.getLsbD i <;> rfl
theorem one_is (v : Nat → BitVec 32) (k w : BitVec 32) : v 7 + (rotr (v 4) 6 ^^^ rotr (v 4) 11 ^^^ rotr (v 4) 25) + (v 6 ^^^ (v 4 &&& (v 5 ^^^ v 6))) + k + w = stepOne v k w := by
  unfold stepOne; rw [ch_is]
theorem two_is (v : Nat → BitVec 32) : (rotr (v 0) 2 ^^^ rotr (v 0) 13 ^^^ rotr (v 0) 22) + ((v 0 &&& v 1) ||| (v 2 &&& (v 0 ||| v 1))) = stepTwo v := by
  unfold stepTwo; rw [maj_is]
theorem sched_is (a b c d : BitVec 32) : a + b + c + d = d + c + b + a := by
  rw [BitVec.add_comm (a + b + c) d, BitVec.add_comm (a + b) c, BitVec.add_comm a b, ← BitVec.add_assoc, ← BitVec.add_assoc]
theorem be32_word (l : List UInt8) (k : Nat) : be32 l k = wordAt [l.getD (k + 3) 0, l.getD (k + 2) 0, l.getD (k + 1) 0, l.getD k 0] 0 := by
  show _ = BitVec.ofNat 32 (l.getD (k + 3) 0).toNat ||| BitVec.ofNat 32 (l.getD (k + 2) 0).toNat <<< 8 ||| BitVec.ofNat 32 (l.getD (k + 1) 0).toNat <<< 16 ||| BitVec.ofNat 32 (l.getD k 0).toNat <<< 24
  unfold be32
  generalize BitVec.ofNat 32 (l.getD k 0).toNat <<< 24 = a
  generalize BitVec.ofNat 32 (l.getD (k + 1) 0).toNat <<< 16 = b
  generalize BitVec.ofNat 32 (l.getD (k + 2) 0).toNat <<< 8 = c
  generalize BitVec.ofNat 32 (l.getD (k + 3) 0).toNat = d
  rw [BitVec.or_comm (a ||| b ||| c) d, BitVec.or_comm (a ||| b) c, BitVec.or_comm a b, ← BitVec.or_assoc, ← BitVec.or_assoc]
/-- A word of j bytes, the greatest first. -/
def partW (l : List UInt8) (k : Nat) : Nat → BitVec 32
  | 0 => 0
  | j + 1 => partW l k j * 256 + BitVec.ofNat 32 (l.getD (k + j) 0).toNat
theorem partW_step (x : BitVec 32) (b : UInt8) : (val x * 256 % 4294967296 + (b.toNat : Int)) % 4294967296 = val (x * 256 + BitVec.ofNat 32 b.toNat) := by
  have := b.toNat_lt
  unfold val
  rw [BitVec.toNat_add, BitVec.toNat_mul, BitVec.toNat_ofNat, Nat.mod_eq_of_lt (a := b.toNat) (by omega), show (256 : BitVec 32).toNat = 256 from rfl, show (2 : Nat) ^ 32 = 4294967296 from rfl]
  omega
theorem partW_four (l : List UInt8) (k : Nat) : partW l k 4 = be32 l k := by
  have h : val (be32 l k) = (l.getD (k + 3) 0).toNat + 256 * (l.getD (k + 2) 0).toNat + 65536 * (l.getD (k + 1) 0).toNat + 16777216 * (l.getD k 0).toNat := by rw [be32_word]; exact wordAt_sum _ 0
  have e : ∀ x y : BitVec 32, val x = val y → x = y := fun x y h => BitVec.eq_of_toNat_eq (by unfold val at h; omega)
  apply e
  rw [h]
  show val (((((0 : BitVec 32) * 256 + BitVec.ofNat 32 (l.getD k 0).toNat) * 256 + BitVec.ofNat 32 (l.getD (k + 1) 0).toNat) * 256 + BitVec.ofNat 32 (l.getD (k + 2) 0).toNat) * 256 + BitVec.ofNat 32 (l.getD (k + 3) 0).toNat) =
    (l.getD (k + 3) 0).toNat + 256 * (l.getD (k + 2) 0).toNat + 65536 * (l.getD (k + 1) 0).toNat + 16777216 * (l.getD k 0).toNat
  have h0 := (l.getD k 0).toNat_lt
  have h1 := (l.getD (k + 1) 0).toNat_lt
  have h2 := (l.getD (k + 2) 0).toNat_lt
  have h3 := (l.getD (k + 3) 0).toNat_lt
  rw [← partW_step, ← partW_step, ← partW_step, ← partW_step, show val 0 = 0 from rfl]
  omega

/-! ### Num -/
/-- A number's last k bytes. -/
def numLast (n : Int) (k : Nat) : List UInt8 := (List.range k).map fun j => byteOf n (k - 1 - j)
theorem numLast_succ (n : Int) (k : Nat) : numLast n (k + 1) = byteOf n k :: numLast n k := by
  unfold numLast
  rw [List.range_succ_eq_map, List.map_cons, List.map_map]
  congr 1
  apply List.map_congr_left
  intro j hj
  show byteOf n (k + 1 - 1 - (j + 1)) = byteOf n (k - 1 - j)
  congr 1; omega
theorem numLast_all (n : Int) : numLast n 8 = numB n := rfl
theorem string_of_byte' (w : World) (b : UInt8) : (convert 118 9 (.slice (some ⟨w.heap.size, 0, none⟩) 1 1)).run Tryz.prog (w.alloc (.cells #[.int .u8 (b.toNat : Int)] 5)) = .ok (.string ⟨#[b]⟩) (w.alloc (.cells #[.int .u8 (b.toNat : Int)] 5)) :=
  string_of_own (ownsC_row (base := w.heap.size) (w := w.alloc (.cells (rowB [b] #[]) 5)) (g := w.heap.size) (cap := 1) (l := [b]) (sp := #[]) (t := 5) (fz := (0, 0)) (heap_alloc_at _ _) (Nat.le_refl _) (by simp [rowB, B8]) (by unfold maxLen; omega) (Or.inr rfl))

end Go.Proofs.YtgckpfeeioljeaaGreatDoor
namespace Go.Proofs.YtgckpfeeioljeaaGreatDoor

/-! ### Numbers of digits of 2^16, the least first -/
def limbs : List Nat → Nat
  | [] => 0
  | d :: t => d + 65536 * limbs t
def small (l : List Nat) : Prop := ∀ d ∈ l, d < 65536
theorem limbs_append (a b : List Nat) : limbs (a ++ b) = limbs a + 65536 ^ a.length * limbs b := by
  induction a with
  | nil => simp [limbs]
  | cons d t ih =>
    simp only [List.cons_append, limbs, ih, List.length_cons, Nat.pow_succ]
    rw [Nat.mul_add, Nat.add_assoc, ← Nat.mul_assoc, Nat.mul_comm 65536 (65536 ^ t.length)]
theorem limbs_zeros (n : Nat) : limbs (List.replicate n 0) = 0 := by
  induction n with
  | zero => rfl
  | succ n ih => simp [List.replicate_succ, limbs, ih]
theorem limbs_pad (a : List Nat) (n : Nat) : limbs (a ++ List.replicate n 0) = limbs a := by rw [limbs_append, limbs_zeros]; simp
theorem limbs_lt (a : List Nat) (h : small a) : limbs a < 65536 ^ a.length := by
  induction a with
  | nil => simp [limbs]
  | cons d t ih =>
    have h1 := h d (List.mem_cons_self ..)
    have h2 := ih (fun x hx => h x (List.mem_cons_of_mem _ hx))
    simp only [limbs, List.length_cons, Nat.pow_succ]
    omega
theorem small_append {a b : List Nat} (ha : small a) (hb : small b) : small (a ++ b) := by
  intro d hd
  rcases List.mem_append.1 hd with h | h
  · exact ha d h
  · exact hb d h
theorem small_zeros (n : Nat) : small (List.replicate n 0) := by
  intro d hd; have := List.eq_of_mem_replicate hd; omega
theorem small_take {a : List Nat} (h : small a) (n : Nat) : small (a.take n) := fun d hd => h d (List.mem_of_mem_take hd)
/-- Held from the top: where they part, the greater digit is the greater number's. -/
theorem limbs_part {v w : List Nat} (hv : small v) (hl : v.length = w.length) {i : Nat} (hi : i < v.length) (heq : v.drop (i + 1) = w.drop (i + 1)) (hlt : v[i] < w[i]'(hl ▸ hi)) : limbs v < limbs w := by
  have e1 : v = v.take i ++ v[i] :: v.drop (i + 1) := by rw [List.getElem_cons_drop, List.take_append_drop]
  have e2 : w = w.take i ++ w[i]'(hl ▸ hi) :: w.drop (i + 1) := by rw [List.getElem_cons_drop, List.take_append_drop]
  have l1 : (v.take i).length = i := by simp; omega
  have l2 : (w.take i).length = i := by simp; omega
  have hb := limbs_lt (v.take i) (small_take hv i)
  rw [l1] at hb
  have s1 : limbs v = limbs (v.take i) + 65536 ^ i * (v[i] + 65536 * limbs (v.drop (i + 1))) := by
    conv => lhs; rw [e1]
    rw [limbs_append, l1]; rfl
  have s2 : limbs w = limbs (w.take i) + 65536 ^ i * (w[i]'(hl ▸ hi) + 65536 * limbs (w.drop (i + 1))) := by
    conv => lhs; rw [e2]
    rw [limbs_append, l2]; rfl
  rw [s1, s2, heq]
  have h3 : 65536 ^ i * (v[i] + 1 + 65536 * limbs (w.drop (i + 1))) ≤ 65536 ^ i * (w[i]'(hl ▸ hi) + 65536 * limbs (w.drop (i + 1))) := Nat.mul_le_mul_left _ (by omega)
  have h4 : 65536 ^ i * (v[i] + 1 + 65536 * limbs (w.drop (i + 1))) = 65536 ^ i * (v[i] + 65536 * limbs (w.drop (i + 1))) + 65536 ^ i := by
    rw [Nat.add_right_comm, Nat.mul_succ]
  omega
/-- One digit more of a product. -/
theorem times_step (out : List Nat) (b x c V : Nat) (h : limbs out + 65536 ^ out.length * c = V) :
    limbs (out ++ [(c + b * x) % 65536]) + 65536 ^ (out.length + 1) * ((c + b * x) / 65536) = V + 65536 ^ out.length * (b * x) := by
  rw [limbs_append]
  have e : limbs [(c + b * x) % 65536] = (c + b * x) % 65536 := by simp [limbs]
  rw [e, Nat.pow_succ, Nat.mul_assoc, Nat.add_assoc, ← Nat.mul_add, Nat.mod_add_div, Nat.mul_add, ← Nat.add_assoc, h]
theorem limbs_take_succ (v : List Nat) (i : Nat) (h : i < v.length) : limbs (v.take (i + 1)) = limbs (v.take i) + 65536 ^ i * v[i] := by
  rw [List.take_succ_eq_append_getElem h, limbs_append, List.length_take, Nat.min_eq_left (Nat.le_of_lt h)]; simp [limbs]

/-! ### Roots -/
def isRoot (p k x : Nat) : Prop := x ^ k ≤ p * 2 ^ (32 * k) ∧ p * 2 ^ (32 * k) < (x + 1) ^ k
theorem isRoot_one {p k x y : Nat} (hx : isRoot p k x) (hy : isRoot p k y) : x = y := by
  rcases Nat.lt_trichotomy x y with h | h | h
  · exfalso
    have := Nat.pow_le_pow_left (show x + 1 ≤ y from h) k
    have := hx.2; have := hy.1; omega
  · exact h
  · exfalso
    have := Nat.pow_le_pow_left (show y + 1 ≤ x from h) k
    have := hy.2; have := hx.1; omega

/-! ### Primes -/
/-- Those of the first j numbers from 2 on that none of those ahead divides. -/
def primesTo : Nat → List Nat
  | 0 => []
  | j + 1 => if (primesTo j).all (fun p => (j + 2) % p != 0) then primesTo j ++ [j + 2] else primesTo j
theorem primesTo_prefix (j d : Nat) : primesTo j <+: primesTo (j + d) := by
  induction d with
  | zero => exact List.prefix_refl _
  | succ d ih =>
    refine List.IsPrefix.trans ih ?_
    rw [show j + (d + 1) = (j + d) + 1 from rfl, primesTo]
    split
    · exact List.prefix_append _ _
    · exact List.prefix_refl _
theorem primesTo_pos (j : Nat) : ∀ p ∈ primesTo j, 2 ≤ p ∧ p ≤ j + 1 := by
  induction j with
  | zero => intro p hp; cases hp
  | succ j ih =>
    intro p hp
    rw [primesTo] at hp
    split at hp
    · rcases List.mem_append.1 hp with h | h
      · have := ih p h; omega
      · simp at h; omega
    · have := ih p hp; omega
def primes64 : List Nat := [2, 3, 5, 7, 11, 13, 17, 19, 23, 29, 31, 37, 41, 43, 47, 53, 59, 61, 67, 71, 73, 79, 83, 89, 97, 101, 103, 107, 109, 113, 127, 131, 137, 139, 149, 151, 157, 163, 167, 173, 179, 181, 191, 193, 197, 199, 211, 223, 227, 229, 233, 239, 241, 251, 257, 263, 269, 271, 277, 281, 283, 293, 307, 311]
set_option maxRecDepth 100000 in
theorem primesTo_310 : primesTo 310 = primes64 := by decide +kernel
theorem primesTo_end {j : Nat} (h : j ≤ 310) (hl : 64 ≤ (primesTo j).length) : primesTo j = primes64 := by
  have hp := primesTo_prefix j (310 - j)
  rw [show j + (310 - j) = 310 by omega, primesTo_310] at hp
  exact hp.eq_of_length_le (by simpa [primes64] using hl)
theorem primesTo_more {j : Nat} (h : j ≤ 310) (hl : (primesTo j).length < 64) : j < 310 := by
  rcases Nat.lt_or_ge j 310 with h' | h'
  · exact h'
  · obtain rfl : j = 310 := by omega
    rw [primesTo_310] at hl; simp [primes64] at hl

/-! ### The roots that are asked for -/
def cubes64 : List Nat := [5411319704, 6194414737, 7344290767, 8215976869, 9551921755, 10098905585, 11043570340, 11460697813, 12214315672, 13195500289, 13492127166, 14311783875, 14809980276, 15046980094, 15499789991, 16133124468, 16720292289, 16907126662, 17444216262, 17784676812, 17950125167, 18429019306, 18734950876, 19175934170, 19734090066, 20001703533, 20132865992, 20390182855, 20516441075, 20764397895, 21588763473, 21813078375, 22141143685, 22248366392, 22769593852, 22871018771, 23170020180, 23461497531, 23651862830, 23931792517, 24205322401, 24295138891, 24734567280, 24820601251, 24990902297, 25075189284, 25569408389, 26045227120, 26200031510, 26276752392, 26428864332, 26653801653, 26727943347, 27092625994, 27306805839, 27517677555, 27725365998, 27793908591, 27997534228, 28131656200, 28198240250, 28526537963, 28973835255, 29099129074]
def squares8 : List Nat := [6074000999, 7439101573, 9603838834, 11363415354, 14244795007, 15485724812, 17708603819, 18721328409]
theorem cubes_are : (List.range 64).all (fun i => decide ((cubes64.getD i 0) ^ 3 ≤ primes64.getD i 0 * 2 ^ 96 ∧ primes64.getD i 0 * 2 ^ 96 < (cubes64.getD i 0 + 1) ^ 3)) = true := by decide +kernel
theorem squares_are : (List.range 8).all (fun i => decide ((squares8.getD i 0) ^ 2 ≤ primes64.getD i 0 * 2 ^ 64 ∧ primes64.getD i 0 * 2 ^ 64 < (squares8.getD i 0 + 1) ^ 2)) = true := by decide +kernel
theorem cube_is {i x : Nat} (hi : i < 64) (h : isRoot (primes64.getD i 0) 3 x) : x = cubes64.getD i 0 := by
  have := List.all_eq_true.1 cubes_are i (List.mem_range.2 hi)
  exact isRoot_one h (show _ ∧ _ from of_decide_eq_true this)
theorem square_is {i x : Nat} (hi : i < 8) (h : isRoot (primes64.getD i 0) 2 x) : x = squares8.getD i 0 := by
  have := List.all_eq_true.1 squares_are i (List.mem_range.2 hi)
  exact isRoot_one h (show _ ∧ _ from of_decide_eq_true this)
end Go.Proofs.YtgckpfeeioljeaaGreatDoor
