/- Primes, and roots of numbers, as the reference reckons them: plain lemmas. No program. -/
import Derived.Test.YtnmpchojhbmbmaaGreatDoorWords
namespace Go.Proofs.YtnmpchojhbmbmaaGreatDoor

/-! ### Numbers of digits of 2^16, the least first -/
def limbs : List Nat → Nat
  | [] => 0
  | d :: t => d + 65536 * limbs t
def small (l : List Nat) : Prop := ∀ d ∈ l, d < 65536
theorem limbs_append (a b : List Nat) : limbs (a ++ b) = limbs a + 65536 ^ a.length * limbs b := by
  induction a with
  | nil => simp [limbs]
  | cons d t ih =>
    simp only [List.cons_append, limbs, ih, List.length_cons, Nat.pow_succ]
    rw [Nat.mul_add, Nat.add_assoc, ← Nat.mul_assoc, Nat.mul_comm 65536 (65536 ^ t.length)]
theorem limbs_zeros (n : Nat) : limbs (List.replicate n 0) = 0 := by
  induction n with
  | zero => rfl
  | succ n ih => simp [List.replicate_succ, limbs, ih]
theorem limbs_pad (a : List Nat) (n : Nat) : limbs (a ++ List.replicate n 0) = limbs a := by rw [limbs_append, limbs_zeros]; simp
theorem limbs_lt (a : List Nat) (h : small a) : limbs a < 65536 ^ a.length := by
  induction a with
  | nil => simp [limbs]
  | cons d t ih =>
    have h1 := h d (List.mem_cons_self ..)
    have h2 := ih (fun x hx => h x (List.mem_cons_of_mem _ hx))
    simp only [limbs, List.length_cons, Nat.pow_succ]
    omega
theorem small_append {a b : List Nat} (ha : small a) (hb : small b) : small (a ++ b) := by
  intro d hd
  rcases List.mem_append.1 hd with h | h
  · exact ha d h
  · exact hb d h
theorem small_zeros (n : Nat) : small (List.replicate n 0) := by
  intro d hd; have := List.eq_of_mem_replicate hd; omega
theorem small_take {a : List Nat} (h : small a) (n : Nat) : small (a.take n) := fun d hd => h d (List.mem_of_mem_take hd)
/-- Held from the top: where they part, the greater digit is the greater number's. -/
theorem limbs_part {v w : List Nat} (hv : small v) (hl : v.length = w.length) {i : Nat} (hi : i < v.length) (heq : v.drop (i + 1) = w.drop (i + 1)) (hlt : v[i] < w[i]'(hl ▸ hi)) : limbs v < limbs w := by
  have e1 : v = v.take i ++ v[i] :: v.drop (i + 1) := by rw [List.getElem_cons_drop, List.take_append_drop]
  have e2 : w = w.take i ++ w[i]'(hl ▸ hi) :: w.drop (i + 1) := by rw [List.getElem_cons_drop, List.take_append_drop]
  have l1 : (v.take i).length = i := by simp; omega
  have l2 : (w.take i).length = i := by simp; omega
  have hb := limbs_lt (v.take i) (small_take hv i)
  rw [l1] at hb
  have s1 : limbs v = limbs (v.take i) + 65536 ^ i * (v[i] + 65536 * limbs (v.drop (i + 1))) := by
    conv => lhs; rw [e1]
    rw [limbs_append, l1]; rfl
  have s2 : limbs w = limbs (w.take i) + 65536 ^ i * (w[i]'(hl ▸ hi) + 65536 * limbs (w.drop (i + 1))) := by
    conv => lhs; rw [e2]
    rw [limbs_append, l2]; rfl
  rw [s1, s2, heq]
  have h3 : 65536 ^ i * (v[i] + 1 + 65536 * limbs (w.drop (i + 1))) ≤ 65536 ^ i * (w[i]'(hl ▸ hi) + 65536 * limbs (w.drop (i + 1))) := Nat.mul_le_mul_left _ (by omega)
  have h4 : 65536 ^ i * (v[i] + 1 + 65536 * limbs (w.drop (i + 1))) = 65536 ^ i * (v[i] + 65536 * limbs (w.drop (i + 1))) + 65536 ^ i := by
    rw [Nat.add_right_comm, Nat.mul_succ]
  omega
/-- One digit more of a product. -/
theorem times_step (out : List Nat) (b x c V : Nat) (h : limbs out + 65536 ^ out.length * c = V) :
    limbs (out ++ [(c + b * x) % 65536]) + 65536 ^ (out.length + 1) * ((c + b * x) / 65536) = V + 65536 ^ out.length * (b * x) := by
  rw [limbs_append]
  have e : limbs [(c + b * x) % 65536] = (c + b * x) % 65536 := by simp [limbs]
  rw [e, Nat.pow_succ, Nat.mul_assoc, Nat.add_assoc, ← Nat.mul_add, Nat.mod_add_div, Nat.mul_add, ← Nat.add_assoc, h]
theorem limbs_take_succ (v : List Nat) (i : Nat) (h : i < v.length) : limbs (v.take (i + 1)) = limbs (v.take i) + 65536 ^ i * v[i] := by
  rw [List.take_succ_eq_append_getElem h, limbs_append, List.length_take, Nat.min_eq_left (Nat.le_of_lt h)]; simp [limbs]

/-! ### Roots -/
def isRoot (p k x : Nat) : Prop := x ^ k ≤ p * 2 ^ (32 * k) ∧ p * 2 ^ (32 * k) < (x + 1) ^ k
theorem isRoot_one {p k x y : Nat} (hx : isRoot p k x) (hy : isRoot p k y) : x = y := by
  rcases Nat.lt_trichotomy x y with h | h | h
  · exfalso
    have := Nat.pow_le_pow_left (show x + 1 ≤ y from h) k
    have := hx.2; have := hy.1; omega
  · exact h
  · exfalso
    have := Nat.pow_le_pow_left (show y + 1 ≤ x from h) k
    have := hy.2; have := hx.1; omega

/-! ### Primes -/
/-- Those of the first j numbers from 2 on that none of those ahead divides. -/
def primesTo : Nat → List Nat
  | 0 => []
  | j + 1 => if (primesTo j).all (fun p => (j + 2) % p != 0) then primesTo j ++ [j + 2] else primesTo j
theorem primesTo_prefix (j d : Nat) : primesTo j <+: primesTo (j + d) := by
  induction d with
  | zero => exact List.prefix_refl _
  | succ d ih =>
    refine List.IsPrefix.trans ih ?_
    rw [show j + (d + 1) = (j + d) + 1 from rfl, primesTo]
    split
    · exact List.prefix_append _ _
    · exact List.prefix_refl _
theorem primesTo_pos (j : Nat) : ∀ p ∈ primesTo j, 2 ≤ p ∧ p ≤ j + 1 := by
  induction j with
  | zero => intro p hp; cases hp
  | succ j ih =>
    intro p hp
    rw [primesTo] at hp
    split at hp
    · rcases List.mem_append.1 hp with h | h
      · have := ih p h; omega
      · simp at h; omega
    · have := ih p hp; omega
def primes64 : List Nat := [2, 3, 5, 7, 11, 13, 17, 19, 23, 29, 31, 37, 41, 43, 47, 53, 59, 61, 67, 71, 73, 79, 83, 89, 97, 101, 103, 107, 109, 113, 127, 131, 137, 139, 149, 151, 157, 163, 167, 173, 179, 181, 191, 193, 197, 199, 211, 223, 227, 229, 233, 239, 241, 251, 257, 263, 269, 271, 277, 281, 283, 293, 307, 311]
set_option maxRecDepth 100000 in
theorem primesTo_310 : primesTo 310 = primes64 := by decide +kernel
theorem primesTo_end {j : Nat} (h : j ≤ 310) (hl : 64 ≤ (primesTo j).length) : primesTo j = primes64 := by
  have hp := primesTo_prefix j (310 - j)
  rw [show j + (310 - j) = 310 by omega, primesTo_310] at hp
  exact hp.eq_of_length_le (by simpa [primes64] using hl)
theorem primesTo_more {j : Nat} (h : j ≤ 310) (hl : (primesTo j).length < 64) : j < 310 := by
  rcases Nat.lt_or_ge j 310 with h' | h'
  · exact h'
  · obtain rfl : j = 310 := by omega
    rw [primesTo_310] at hl; simp [primes64] at hl

/-! ### The roots that are asked for -/
def cubes64 : List Nat := [5411319704, 6194414737, 7344290767, 8215976869, 9551921755, 10098905585, 11043570340, 11460697813, 12214315672, 13195500289, 13492127166, 14311783875, 14809980276, 15046980094, 15499789991, 16133124468, 16720292289, 16907126662, 17444216262, 17784676812, 17950125167, 18429019306, 18734950876, 19175934170, 19734090066, 20001703533, 20132865992, 20390182855, 20516441075, 20764397895, 21588763473, 21813078375, 22141143685, 22248366392, 22769593852, 22871018771, 23170020180, 23461497531, 23651862830, 23931792517, 24205322401, 24295138891, 24734567280, 24820601251, 24990902297, 25075189284, 25569408389, 26045227120, 26200031510, 26276752392, 26428864332, 26653801653, 26727943347, 27092625994, 27306805839, 27517677555, 27725365998, 27793908591, 27997534228, 28131656200, 28198240250, 28526537963, 28973835255, 29099129074]
def squares8 : List Nat := [6074000999, 7439101573, 9603838834, 11363415354, 14244795007, 15485724812, 17708603819, 18721328409]
theorem cubes_are : (List.range 64).all (fun i => decide ((cubes64.getD i 0) ^ 3 ≤ primes64.getD i 0 * 2 ^ 96 ∧ primes64.getD i 0 * 2 ^ 96 < (cubes64.getD i 0 + 1) ^ 3)) = true := by decide +kernel
theorem squares_are : (List.range 8).all (fun i => decide ((squares8.getD i 0) ^ 2 ≤ primes64.getD i 0 * 2 ^ 64 ∧ primes64.getD i 0 * 2 ^ 64 < (squares8.getD i 0 + 1) ^ 2)) = true := by decide +kernel
theorem cube_is {i x : Nat} (hi : i < 64) (h : isRoot (primes64.getD i 0) 3 x) : x = cubes64.getD i 0 := by
  have := List.all_eq_true.1 cubes_are i (List.mem_range.2 hi)
  exact isRoot_one h (show _ ∧ _ from of_decide_eq_true this)
theorem square_is {i x : Nat} (hi : i < 8) (h : isRoot (primes64.getD i 0) 2 x) : x = squares8.getD i 0 := by
  have := List.all_eq_true.1 squares_are i (List.mem_range.2 hi)
  exact isRoot_one h (show _ ∧ _ from of_decide_eq_true this)
end Go.Proofs.YtnmpchojhbmbmaaGreatDoor
