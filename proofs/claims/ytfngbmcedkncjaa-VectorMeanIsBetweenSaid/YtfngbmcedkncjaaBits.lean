/- The bit operations of the encodings, as numbers; no program in sight. -/
import Derived.Test.YtfngbmcedkncjaaPlain
import Derived.Laws.BitsAllLaws
import Derived.Laws.DeepNot64
set_option linter.unusedVariables false
namespace Go.Proofs.Ytfngbmcedkncjaa.Plain
open Go.RowKit

theorem wrap_u64 (n : Int) : IntKind.u64.wrap n = n % 18446744073709551616 := by simp [IntKind.wrap, IntKind.bits, IntKind.signed]
theorem u64_join (x y : Int) (i : Nat) (hx0 : 0 ≤ x) (hx : x < 2 ^ i) (hy0 : 0 ≤ y) (hs : x + 2 ^ i * y < 18446744073709551616) :
    bits .or .u64 x (2 ^ i * y) = x + 2 ^ i * y := by
  obtain ⟨a, rfl⟩ := Int.eq_ofNat_of_zero_le hx0
  obtain ⟨b, rfl⟩ := Int.eq_ofNat_of_zero_le hy0
  have e : ((2 : Int) ^ i * (b : Int)) = ((2 ^ i * b : Nat) : Int) := by rw [Int.natCast_mul, Int.natCast_pow]; rfl
  have ha : a < 2 ^ i := by exact_mod_cast hx
  rw [e] at hs ⊢
  have hs' : a + 2 ^ i * b < 18446744073709551616 := by
    have h2 : ((a : Int) + ((2 ^ i * b : Nat) : Int)) = ((a + 2 ^ i * b : Nat) : Int) := by rw [Int.natCast_add]
    rw [h2] at hs
    omega
  rw [u64_or_nat a (2 ^ i * b) (by omega) (by omega), Nat.or_comm, ← Nat.two_pow_add_eq_or_of_lt ha b]
  simp [Int.add_comm]
theorem u8_mask (x : Int) (h0 : 0 ≤ x) (h1 : x ≤ 255) : bits .and .u8 x 127 = x % 128 := by
  have := bits_mask .u8 8 (by decide) wraps_u8 7 (by decide) x h0 (by omega)
  simpa using this
theorem pow_pos_int (i : Nat) : (0 : Int) < 2 ^ i := Int.pow_pos (by decide)

/-- What GetInt makes of z and a further byte x. -/
def acc (z x : Int) (k : Nat) : Int := bits .or .u64 z (IntKind.u64.wrap (IntKind.u64.wrap (bits .and .u8 x 127) * 2 ^ (7 * k)))
theorem pow7_le {k : Nat} (hk : k ≤ 8) : (2 : Int) ^ (7 * k) ≤ 72057594037927936 := by
  have : (2 : Nat) ^ (7 * k) ≤ 2 ^ 56 := Nat.pow_le_pow_right (by decide) (by omega)
  have h : ((2 ^ (7 * k) : Nat) : Int) ≤ ((2 ^ 56 : Nat) : Int) := by exact_mod_cast this
  simpa using h
theorem acc_lt (z x : Int) (k : Nat) (hz0 : 0 ≤ z) (hz : z < 2 ^ (7 * k)) (hx0 : 0 ≤ x) (hx1 : x ≤ 255) (hk : k ≤ 9) (h9 : k = 9 → x ≤ 1) :
    z + 2 ^ (7 * k) * (x % 128) < 18446744073709551616 := by
  rcases Nat.lt_or_ge k 9 with h | h
  · have h1 := pow7_le (k := k) (by omega)
    have h2 : (2 : Int) ^ (7 * k) * (x % 128) ≤ 72057594037927936 * 127 := Int.mul_le_mul h1 (by omega) (by omega) (by decide)
    omega
  · obtain rfl : k = 9 := by omega
    have := h9 rfl
    have e : (2 : Int) ^ (7 * 9) = 9223372036854775808 := by decide
    rw [e] at hz ⊢
    omega
theorem acc_eq (z x : Int) (k : Nat) (hz0 : 0 ≤ z) (hz : z < 2 ^ (7 * k)) (hx0 : 0 ≤ x) (hx1 : x ≤ 255) (hk : k ≤ 9) (h9 : k = 9 → x ≤ 1) :
    acc z x k = z + 2 ^ (7 * k) * (x % 128) := by
  have hlt := acc_lt z x k hz0 hz hx0 hx1 hk h9
  have hp := pow_pos_int (7 * k)
  have hm : 0 ≤ (2 : Int) ^ (7 * k) * (x % 128) := Int.mul_nonneg (by omega) (by omega)
  unfold acc
  rw [u8_mask x hx0 hx1, wrap_u64 (x % 128), Int.emod_eq_of_lt (a := x % 128) (by omega) (by omega), wrap_u64, Int.mul_comm (x % 128), Int.emod_eq_of_lt hm (by omega)]
  exact u64_join z (x % 128) (7 * k) hz0 hz (by omega) hlt

/-- What GetInt makes of z at its end. -/
def unz (z : Int) : Int := bits .xor .i64 (wrap64 (z / 2)) (wrap64 (-wrap64 (bits .and .u64 z 1)))
theorem u64_low (z : Int) (h0 : 0 ≤ z) (h1 : z < 18446744073709551616) : bits .and .u64 z 1 = z % 2 := by
  obtain ⟨a, rfl⟩ := Int.eq_ofNat_of_zero_le h0
  have := u64_and_nat a 1 (by omega) (by omega)
  simp only [Int.natCast_one, Nat.and_one_is_mod] at this
  rw [this]
  omega
theorem i64_not' (a : Nat) (ha : a < 9223372036854775808) : bits .xor .i64 (a : Int) (-1) = -1 - (a : Int) := by
  rw [← i64_not a ha]
  simp only [bits, BitVec.xor_comm]
theorem i64_xor0 (a : Nat) (ha : a < 9223372036854775808) : bits .xor .i64 (a : Int) 0 = (a : Int) := by
  show IntKind.i64.wrap (((BitVec.ofInt 64 (a : Int) ^^^ BitVec.ofInt 64 0).toNat : Nat) : Int) = a
  have h0 : BitVec.ofInt 64 0 = 0#64 := rfl
  rw [h0, BitVec.xor_zero, BitVec.ofInt_natCast, BitVec.toNat_ofNat, Nat.mod_eq_of_lt (by omega), IntKind.wrap_i64]
  omega
theorem wrap64_id {n : Int} (h0 : -9223372036854775808 ≤ n) (h1 : n < 9223372036854775808) : wrap64 n = n := by unfold wrap64; omega
theorem unz_eq (z : Int) (h0 : 0 ≤ z) (h1 : z < 18446744073709551616) : unz z = unzig z.toNat := by
  obtain ⟨a, rfl⟩ := Int.eq_ofNat_of_zero_le h0
  unfold unz unzig
  rw [u64_low _ h0 h1, wrap64_id (n := (a : Int) / 2) (by omega) (by omega), wrap64_id (n := (a : Int) % 2) (by omega) (by omega), wrap64_id (by omega) (by omega)]
  have e : ((a : Int) / 2) = ((a / 2 : Nat) : Int) := by omega
  rw [e, Int.toNat_natCast]
  rcases Nat.mod_two_eq_zero_or_one a with h | h
  · rw [if_pos h, show -((a : Int) % 2) = 0 from by omega]
    exact i64_xor0 _ (by omega)
  · rw [if_neg (by omega), show -((a : Int) % 2) = -1 from by omega]
    exact i64_not' _ (by omega)

/-- What Int makes of n. -/
def zz (n : Int) : Int := bits .xor .u64 (IntKind.u64.wrap (IntKind.u64.wrap n * 2)) (IntKind.u64.wrap (n / 9223372036854775808))
theorem u64_not (a : Nat) (ha : a < 18446744073709551616) : bits .xor .u64 (a : Int) 18446744073709551615 = 18446744073709551615 - (a : Int) := by
  have h := u64_xor_nat a 18446744073709551615 ha (by decide)
  have e : (((18446744073709551615 : Nat)) : Int) = 18446744073709551615 := rfl
  rw [e] at h
  rw [h]
  have hx : (BitVec.ofNat 64 a ^^^ BitVec.allOnes 64) = ~~~ (BitVec.ofNat 64 a) := BitVec.xor_allOnes
  have h2 := congrArg BitVec.toNat hx
  rw [BitVec.toNat_xor, BitVec.toNat_allOnes, BitVec.toNat_not, BitVec.toNat_ofNat, Nat.mod_eq_of_lt (by simpa using ha)] at h2
  have h3 : a ^^^ 18446744073709551615 = 18446744073709551615 - a := by simpa using h2
  rw [h3]
  omega
theorem zz_eq (n : Int) (h0 : -9223372036854775808 ≤ n) (h1 : n < 9223372036854775808) : zz n = (zig n : Int) := by
  unfold zz zig
  rw [wrap_u64 n, wrap_u64, wrap_u64]
  by_cases h : 0 ≤ n
  · rw [if_pos h, show n / 9223372036854775808 = 0 from by omega, Int.emod_eq_of_lt h (by omega), Int.emod_eq_of_lt (by omega) (by omega)]
    obtain ⟨a, rfl⟩ := Int.eq_ofNat_of_zero_le h
    have e : ((a : Int) * 2) = ((a * 2 : Nat) : Int) := by omega
    have hx := u64_xor_nat (a * 2) 0 (by omega) (by omega)
    rw [e, show ((0 : Int) % 18446744073709551616) = ((0 : Nat) : Int) from rfl, hx, Nat.xor_zero]
    omega
  · rw [if_neg h, show n / 9223372036854775808 = -1 from by omega, show ((-1 : Int) % 18446744073709551616) = 18446744073709551615 from rfl]
    have e : ((n % 18446744073709551616) * 2) % 18446744073709551616 = (((18446744073709551616 + 2 * n).toNat : Nat) : Int) := by omega
    rw [e, u64_not _ (by omega)]
    omega
theorem zig_lt (n : Int) (h0 : -9223372036854775808 ≤ n) (h1 : n < 9223372036854775808) : zig n < 18446744073709551616 := by
  unfold zig
  split <;> omega
theorem u8_high (z : Int) : bits .or .u8 (z % 256) 128 = z % 128 + 128 := by
  obtain ⟨a, ha⟩ := Int.eq_ofNat_of_zero_le (show 0 ≤ z % 256 by omega)
  have hlt : a < 256 := by omega
  have h := u8_or_nat a 128 hlt (by omega)
  have e : (((128 : Nat)) : Int) = 128 := rfl
  rw [e] at h
  rw [ha, h]
  have h2 : a ||| 128 = a % 128 + 128 := by
    have key : ∀ x : Fin 256, x.val ||| 128 = x.val % 128 + 128 := by decide +kernel
    exact key ⟨a, hlt⟩
  omega

/-- What is left to answer: k bytes are read, z is what they say. -/
def fin (k : Nat) (z : Nat) (r : List Int) : Int × Int × Int :=
  match dZ k r with
  | .ok (z', u) => (unzig (z + 2 ^ (7 * k) * z'), ((k + u : Nat) : Int), 0)
  | .error e => (0, 0, e)
theorem fin_start (l : List Int) : fin 0 0 l = dInt l := by
  unfold fin dInt
  cases dZ 0 l with
  | error e => rfl
  | ok p => obtain ⟨z, u⟩ := p; simp
theorem fin_nil (k z : Nat) : fin k z [] = (0, 0, 10) := by simp [fin, dZ]
theorem fin_bad {k z : Nat} {x : Int} {r : List Int} (h : (k = 9 ∧ 1 < x) ∨ (0 < k ∧ x = 0)) : fin k z (x :: r) = (0, 0, 11) := by
  simp only [fin, dZ]
  rw [if_pos h]
theorem fin_end {k z : Nat} {x : Int} {r : List Int} (h : ¬ ((k = 9 ∧ 1 < x) ∨ (0 < k ∧ x = 0))) (hx : x < 128) : fin k z (x :: r) = (unzig (z + 2 ^ (7 * k) * x.toNat), ((k + 1 : Nat) : Int), 0) := by
  simp only [fin, dZ]
  rw [if_neg h, if_pos hx]
theorem fin_step {k z : Nat} {x : Int} {r : List Int} (h : ¬ ((k = 9 ∧ 1 < x) ∨ (0 < k ∧ x = 0))) (hx : 128 ≤ x) : fin k z (x :: r) = fin (k + 1) (z + 2 ^ (7 * k) * (x - 128).toNat) r := by
  simp only [fin, dZ]
  rw [if_neg h, if_neg (by omega)]
  cases dZ (k + 1) r with
  | error e => rfl
  | ok p =>
    obtain ⟨z', u⟩ := p
    simp only
    have e : 2 ^ (7 * (k + 1)) = 2 ^ (7 * k) * 128 := by rw [show 7 * (k + 1) = 7 * k + 7 from by omega, Nat.pow_add]
    rw [e, Nat.mul_add, Nat.mul_assoc, Nat.add_assoc, show k + 1 + u = k + (u + 1) from by omega]
theorem acc_toNat {z x : Int} {k : Nat} (hz0 : 0 ≤ z) (hx : 0 ≤ x) : (z + 2 ^ (7 * k) * x).toNat = z.toNat + 2 ^ (7 * k) * x.toNat := by
  obtain ⟨a, rfl⟩ := Int.eq_ofNat_of_zero_le hz0
  obtain ⟨b, rfl⟩ := Int.eq_ofNat_of_zero_le hx
  have e : ((2 : Int) ^ (7 * k) * (b : Int)) = ((2 ^ (7 * k) * b : Nat) : Int) := by rw [Int.natCast_mul, Int.natCast_pow]; rfl
  rw [e, ← Int.natCast_add, Int.toNat_natCast, Int.toNat_natCast, Int.toNat_natCast]

/-- The ends of GetInt's rounds. H: what the loop has kept. -/
theorem end_bad {l r : List Int} {k : Nat} {z x : Int} (hd : l.drop k = x :: r) (hf : fin k z.toNat (l.drop k) = dInt l) (h : (k = 9 ∧ 1 < x) ∨ (0 < k ∧ x = 0)) : ((0, 0, 11) : Int × Int × Int) = dInt l := by
  rw [hd, fin_bad h] at hf
  exact hf
theorem end_nil {l : List Int} {k : Nat} {z : Int} (hk : l.length ≤ k) (hf : fin k z.toNat (l.drop k) = dInt l) : ((0, 0, 10) : Int × Int × Int) = dInt l := by
  rw [List.drop_of_length_le hk, fin_nil] at hf
  exact hf
theorem end_ok {l r : List Int} {k : Nat} {z x : Int} (hd : l.drop k = x :: r) (hz0 : 0 ≤ z) (hz : z < 2 ^ (7 * k)) (hf : fin k z.toNat (l.drop k) = dInt l) (hk : k ≤ 9) (hx0 : 0 ≤ x) (hx1 : x < 128) (h : ¬ ((k = 9 ∧ 1 < x) ∨ (0 < k ∧ x = 0))) :
    ((unz (acc z x k), (k : Int) + 1, 0) : Int × Int × Int) = dInt l := by
  have h9 : k = 9 → x ≤ 1 := fun e => Int.not_lt.1 fun h1 => h (.inl ⟨e, h1⟩)
  have hlt := acc_lt z x k hz0 hz hx0 (by omega) hk h9
  have hm : 0 ≤ (2 : Int) ^ (7 * k) * (x % 128) := Int.mul_nonneg (Int.le_of_lt (pow_pos_int _)) (by omega)
  rw [acc_eq z x k hz0 hz hx0 (by omega) hk h9, unz_eq _ (by omega) hlt, Int.emod_eq_of_lt hx0 hx1, acc_toNat hz0 hx0, ← hf, hd, fin_end h hx1]
  rfl
theorem step_ok {l r : List Int} {k : Nat} {z x : Int} (hd : l.drop k = x :: r) (hr : r = l.drop (k + 1)) (hz0 : 0 ≤ z) (hz : z < 2 ^ (7 * k)) (hf : fin k z.toNat (l.drop k) = dInt l) (hk : k ≤ 8) (hx0 : 128 ≤ x) (hx1 : x ≤ 255) :
    0 ≤ acc z x k ∧ acc z x k < 2 ^ (7 * (k + 1)) ∧ fin (k + 1) (acc z x k).toNat (l.drop (k + 1)) = dInt l := by
  have e : x % 128 = x - 128 := by omega
  have hp := pow_pos_int (7 * k)
  have hm : 0 ≤ (2 : Int) ^ (7 * k) * (x - 128) := Int.mul_nonneg (by omega) (by omega)
  have hm2 : (2 : Int) ^ (7 * k) * (x - 128) ≤ 2 ^ (7 * k) * 127 := Int.mul_le_mul_of_nonneg_left (by omega) (by omega)
  have e2 : (2 : Int) ^ (7 * (k + 1)) = 2 ^ (7 * k) * 128 := by rw [show 7 * (k + 1) = 7 * k + 7 from by omega, Int.pow_add]; rfl
  rw [acc_eq z x k hz0 hz (by omega) hx1 (by omega) (by omega), e, acc_toNat hz0 (by omega), ← hr, ← hf, hd, fin_step (by omega) hx0]
  exact ⟨by omega, by rw [e2]; omega, rfl⟩

/-! ### Int -/
theorem encZ_end {z : Nat} (h : z < 128) : encZ z = [(z : Int)] := by rw [encZ, if_pos h]
theorem encZ_step {z : Nat} (h : 128 ≤ z) : encZ z = ((z % 128 + 128 : Nat) : Int) :: encZ (z / 128) := by rw [encZ, if_neg (by omega)]
theorem encZ_length (k : Nat) : ∀ z : Nat, z < 128 ^ (k + 1) → (encZ z).length ≤ k + 1 := by
  induction k with
  | zero => intro z h; rw [encZ_end (by simpa using h)]; simp
  | succ k ih =>
    intro z h
    by_cases hz : z < 128
    · rw [encZ_end hz]; simp
    · rw [encZ_step (by omega)]
      have : z / 128 < 128 ^ (k + 1) := by
        rw [Nat.div_lt_iff_lt_mul (by decide)]
        rwa [Nat.pow_succ] at h
      have := ih _ this
      simp only [List.length_cons]
      omega
theorem encZ_pos (z : Nat) : 0 < (encZ z).length := by
  rw [encZ]
  split <;> simp
/-- The ints that Go has. -/
def I64 (n : Int) : Prop := -9223372036854775808 ≤ n ∧ n < 9223372036854775808
theorem eInt_length {n : Int} (h : I64 n) : (eInt n).length ≤ 10 := by
  refine encZ_length 9 _ (Nat.lt_trans (zig_lt n h.1 h.2) (by decide))
theorem eInt_pos (n : Int) : 0 < (eInt n).length := encZ_pos _
theorem encZ_bytes (k : Nat) : ∀ z : Nat, z < 128 ^ (k + 1) → Bytes8 (encZ z) := by
  induction k with
  | zero =>
    intro z h x hx
    rw [encZ_end (by simpa using h), List.mem_singleton] at hx
    have : z < 128 := by simpa using h
    omega
  | succ k ih =>
    intro z h x hx
    by_cases hz : z < 128
    · rw [encZ_end hz, List.mem_singleton] at hx
      omega
    · rw [encZ_step (by omega), List.mem_cons] at hx
      rcases hx with rfl | hx
      · omega
      · refine ih _ ?_ x hx
        rw [Nat.div_lt_iff_lt_mul (by decide)]
        rwa [Nat.pow_succ] at h
theorem eInt_bytes {n : Int} (h : I64 n) : Bytes8 (eInt n) := encZ_bytes 9 _ (Nat.lt_trans (zig_lt n h.1 h.2) (by decide))
/-- A round of Int: H is what the loop keeps. -/
theorem int_step {n z : Int} {a : List Int} (hz : 127 < z) (h : a ++ encZ z.toNat = eInt n) : (a ++ [bits .or .u8 (z % 256) 128]) ++ encZ (z / 128).toNat = eInt n := by
  rw [← h, encZ_step (z := z.toNat) (by omega), u8_high, List.append_assoc, List.singleton_append]
  have e1 : (z / 128).toNat = z.toNat / 128 := by omega
  have e2 : ((z.toNat % 128 + 128 : Nat) : Int) = z % 128 + 128 := by omega
  rw [e1, e2]
theorem int_end {n z : Int} {a : List Int} (h0 : 0 ≤ z) (hz : z ≤ 127) (h : a ++ encZ z.toNat = eInt n) : a ++ [z] = eInt n := by
  rw [← h, encZ_end (z := z.toNat) (by omega)]
  have e : ((z.toNat : Nat) : Int) = z := by omega
  rw [e]
theorem int_len {n z : Int} {a : List Int} (hn : I64 n) (h : a ++ encZ z.toNat = eInt n) : a.length < 10 := by
  have h1 := eInt_length hn
  have h2 := encZ_pos z.toNat
  rw [← h, List.length_append] at h1
  omega

/-! ### the reference's Int -/
/-- What the reference makes of n. -/
theorem ref_neg {n : Int} (hn : I64 n) (h : n < 0) : IntKind.u64.wrap ((IntKind.u64.wrap ((IntKind.u64.wrap (wrap64 (-1 - n))) * 2)) + 1) = (zig n : Int) := by
  obtain ⟨h0, h1⟩ := hn
  rw [wrap64_id (by omega) (by omega), wrap_u64, wrap_u64, wrap_u64]
  unfold zig
  rw [if_neg (by omega)]
  omega
theorem ref_pos {n : Int} (hn : I64 n) (h : ¬ n < 0) : IntKind.u64.wrap ((IntKind.u64.wrap n) * 2) = (zig n : Int) := by
  obtain ⟨h0, h1⟩ := hn
  rw [wrap_u64, wrap_u64]
  unfold zig
  rw [if_pos (by omega)]
  omega
theorem ref_step {n z : Int} {a : List Int} (hz : 128 ≤ z) (h : a ++ encZ z.toNat = eInt n) : (a ++ [z % 128 + 128]) ++ encZ (z / 128).toNat = eInt n := by
  rw [← u8_high]
  exact int_step (by omega) h

/-! ### what GetInt answers -/
theorem dZ_ok : ∀ (b : List Int) (k z u : Nat), dZ k b = .ok (z, u) → k ≤ 9 → 1 ≤ u ∧ u ≤ b.length ∧ k + u ≤ 10
  | [], k, z, u, h, _ => by simp [dZ] at h
  | c :: r, k, z, u, h, hk => by
    simp only [dZ] at h
    split at h
    · cases h
    · rename_i hbad
      split at h
      · simp only [Except.ok.injEq, Prod.mk.injEq] at h
        simp only [List.length_cons]
        omega
      · rename_i hc
        cases hr : dZ (k + 1) r with
        | error e => rw [hr] at h; cases h
        | ok p =>
          obtain ⟨z', u'⟩ := p
          rw [hr] at h
          simp only [Except.ok.injEq, Prod.mk.injEq] at h
          have := dZ_ok r (k + 1) z' u' hr (by omega)
          simp only [List.length_cons]
          omega
theorem dZ_lt : ∀ (b : List Int) (k z u : Nat), Bytes8 b → dZ k b = .ok (z, u) → k ≤ 9 → z * 2 ^ (7 * k) < 18446744073709551616
  | [], k, z, u, _, h, _ => by simp [dZ] at h
  | c :: r, k, z, u, hb, h, hk => by
    have hc0 := hb c (by simp)
    simp only [dZ] at h
    split at h
    · cases h
    · rename_i hbad
      split at h
      · simp only [Except.ok.injEq, Prod.mk.injEq] at h
        rcases Nat.lt_or_ge k 9 with h9 | h9
        · have h1 : 2 ^ (7 * k) ≤ 2 ^ 56 := Nat.pow_le_pow_right (by decide) (by omega)
          have h2 : z * 2 ^ (7 * k) ≤ 127 * 2 ^ 56 := Nat.mul_le_mul (by omega) h1
          omega
        · obtain rfl : k = 9 := by omega
          have h1 : z ≤ 1 := by omega
          have h2 : z * 2 ^ (7 * 9) ≤ 1 * 2 ^ (7 * 9) := Nat.mul_le_mul_right _ h1
          omega
      · rename_i hc
        cases hr : dZ (k + 1) r with
        | error e => rw [hr] at h; cases h
        | ok p =>
          obtain ⟨z', u'⟩ := p
          rw [hr] at h
          simp only [Except.ok.injEq, Prod.mk.injEq] at h
          have hk8 : k ≤ 8 := by omega
          have ih := dZ_lt r (k + 1) z' u' (fun x hx => hb x (by simp [hx])) hr (by omega)
          have e : 2 ^ (7 * (k + 1)) = 2 ^ (7 * k) * 128 := by rw [show 7 * (k + 1) = 7 * k + 7 from by omega, Nat.pow_add]
          have hd : 2 ^ 64 = 2 ^ (7 * k) * 2 ^ (64 - 7 * k) := by rw [← Nat.pow_add]; congr 1; omega
          have hd2 : 2 ^ (64 - 7 * k) = 128 * 2 ^ (57 - 7 * k) := by rw [show 64 - 7 * k = 7 + (57 - 7 * k) from by omega, Nat.pow_add]
          have hp : 0 < 2 ^ (7 * k) := Nat.two_pow_pos _
          have hz' : z' < 2 ^ (57 - 7 * k) := by
            rw [e] at ih
            have h64 : (18446744073709551616 : Nat) = 2 ^ 64 := by decide
            rw [h64, hd, hd2] at ih
            have h3 : z' * (2 ^ (7 * k) * 128) = 2 ^ (7 * k) * (128 * z') := by rw [← Nat.mul_assoc, Nat.mul_comm z' _, Nat.mul_assoc, Nat.mul_comm z' 128]
            rw [h3] at ih
            have := Nat.lt_of_mul_lt_mul_left ih
            omega
          have hz : z < 2 ^ (64 - 7 * k) := by rw [hd2]; omega
          have h64 : (18446744073709551616 : Nat) = 2 ^ 64 := by decide
          rw [h64, hd, Nat.mul_comm]
          exact Nat.mul_lt_mul_of_pos_left hz hp
theorem unzig_range {z : Nat} (h : z < 18446744073709551616) : I64 (unzig z) := by
  unfold unzig I64
  split <;> omega
theorem dInt_range {b : List Int} (hb : Bytes8 b) : I64 (dInt b).1 ∧ 0 ≤ (dInt b).2.1 ∧ (dInt b).2.1 ≤ b.length ∧ (dInt b).2.1 ≤ 10 ∧ ((dInt b).2.2 = 0 → 1 ≤ (dInt b).2.1) ∧ ((dInt b).2.2 = 0 ∨ (dInt b).2.2 = 10 ∨ (dInt b).2.2 = 11) := by
  have herr : ∀ (b : List Int) (k : Nat) (e : Int), dZ k b = .error e → e = 10 ∨ e = 11 := by
    intro b
    induction b with
    | nil => intro k e h; simp only [dZ, Except.error.injEq] at h; omega
    | cons c r ih =>
      intro k e h
      simp only [dZ] at h
      split at h
      · simp only [Except.error.injEq] at h; omega
      · split at h
        · cases h
        · cases hr : dZ (k + 1) r with
          | error e' => rw [hr] at h; simp only [Except.error.injEq] at h; subst h; exact ih _ _ hr
          | ok p => rw [hr] at h; cases h
  unfold dInt
  cases h : dZ 0 b with
  | error e =>
    have := herr b 0 e h
    refine ⟨by unfold I64; simp only; omega, by simp only; omega, by simp only; omega, by simp only; omega, ?_, ?_⟩
    · intro he; simp only at he; omega
    · simp only; omega
  | ok p =>
    obtain ⟨z, u⟩ := p
    have h1 := dZ_ok b 0 z u h (by omega)
    have h2 := dZ_lt b 0 z u hb h (by omega)
    simp only [Nat.mul_zero, Nat.pow_zero, Nat.mul_one] at h2
    exact ⟨unzig_range h2, by simp only; omega, by simp only; omega, by simp only; omega, fun _ => by simp only; omega, .inl rfl⟩

/-! ### lists of elements, decoded -/
section
variable {α : Type}
/-- acc, and then what t says. -/
def app (acc : List α) (t : List α × Int × Int) : List α × Int × Int := if t.2.2 ≠ 0 then ([], 0, t.2.2) else (acc ++ t.1, t.2.1, 0)
theorem app_err (acc : List α) {a : List α} {u e : Int} (h : e ≠ 0) : app acc (a, u, e) = ([], 0, e) := by simp [app, h]
theorem app_ok (acc a : List α) (u : Int) : app acc (a, u, 0) = (acc ++ a, u, 0) := by simp [app]
theorem app_app (acc acc' : List α) (t : List α × Int × Int) : app acc (app acc' t) = app (acc ++ acc') t := by
  unfold app
  by_cases h : t.2.2 = 0 <;> simp [h]
theorem dList_zero (one : List Int → α × Int × Int) (b : List Int) (p : Int) : dList one b 0 p = ([], p, 0) := rfl
theorem dList_succ (one : List Int → α × Int × Int) (b : List Int) (n : Nat) (p : Int) :
    dList one b (n + 1) p = if (one (b.drop p.toNat)).2.2 ≠ 0 then ([], 0, (one (b.drop p.toNat)).2.2) else app [(one (b.drop p.toNat)).1] (dList one b n (p + (one (b.drop p.toNat)).2.1)) := rfl
theorem dList_app (one : List Int → α × Int × Int) (b : List Int) (n : Nat) (p : Int) : app [] (dList one b n p) = dList one b n p := by
  cases n with
  | zero => simp [dList_zero, app]
  | succ n =>
    rw [dList_succ]
    split
    · rename_i h; exact app_err _ h
    · rw [app_app, List.nil_append]
/-- A round of get. -/
theorem get_bad {one : List Int → α × Int × Int} {b : List Int} {N i : Nat} {p : Int} {acc : List α} {T : List α × Int × Int} (h : app acc (dList one b (N - i) p) = T) (hi : i < N) (he : (one (b.drop p.toNat)).2.2 ≠ 0) :
    (([], 0, (one (b.drop p.toNat)).2.2) : List α × Int × Int) = T := by
  rw [← h, show N - i = (N - i - 1) + 1 from by omega, dList_succ, if_pos he, app_err _ he]
theorem get_step {one : List Int → α × Int × Int} {b : List Int} {N i : Nat} {p : Int} {acc : List α} {T : List α × Int × Int} (h : app acc (dList one b (N - i) p) = T) (hi : i < N) (he : (one (b.drop p.toNat)).2.2 = 0) :
    app (acc ++ [(one (b.drop p.toNat)).1]) (dList one b (N - (i + 1)) (p + (one (b.drop p.toNat)).2.1)) = T := by
  rw [← h, show N - i = (N - (i + 1)) + 1 from by omega, dList_succ, if_neg (by simpa using he), app_app]
theorem get_end {one : List Int → α × Int × Int} {b : List Int} {N i : Nat} {p : Int} {acc : List α} {T : List α × Int × Int} (h : app acc (dList one b (N - i) p) = T) (hi : N ≤ i) : ((acc, p, 0) : List α × Int × Int) = T := by
  rw [← h, show N - i = 0 from by omega, dList_zero, app_ok, List.append_nil]
end
theorem bytes8_drop {b : List Int} (h : Bytes8 b) (n : Nat) : Bytes8 (b.drop n) := fun x hx => h x (List.mem_of_mem_drop hx)
end Go.Proofs.Ytfngbmcedkncjaa.Plain
