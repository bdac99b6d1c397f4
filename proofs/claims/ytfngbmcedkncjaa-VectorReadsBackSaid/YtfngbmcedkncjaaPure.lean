/- The plain laws of the encodings: reading back, canonical, truncated, lengths; no program in sight. -/
import Derived.Test.YtfngbmcedkncjaaBits
set_option linter.unusedVariables false
set_option linter.unusedSimpArgs false
namespace Go.Proofs.Ytfngbmcedkncjaa.Plain
open Go.RowKit Go.Proofs.YtfngbmcedkncjaaW.PrintWords

theorem pow7 (k : Nat) : 2 ^ (7 * (k + 1)) = 2 ^ (7 * k) * 128 := by rw [show 7 * (k + 1) = 7 * k + 7 from by omega, Nat.pow_add]
theorem k8_of {z k : Nat} (hz : 128 ≤ z) (h : z * 2 ^ (7 * k) < 18446744073709551616) : k ≤ 8 := by
  rcases Nat.lt_or_ge k 9 with h9 | h9
  · omega
  · have h1 : 2 ^ 63 ≤ 2 ^ (7 * k) := Nat.pow_le_pow_right (by decide) (by omega)
    have h2 : 128 * 2 ^ 63 ≤ z * 2 ^ (7 * k) := Nat.mul_le_mul hz h1
    omega
theorem z1_of {z : Nat} (h : z * 2 ^ (7 * 9) < 18446744073709551616) : z ≤ 1 := by omega
theorem div_bound {z k : Nat} (h : z * 2 ^ (7 * k) < 18446744073709551616) : z / 128 * 2 ^ (7 * (k + 1)) < 18446744073709551616 := by
  rw [pow7, Nat.mul_comm (2 ^ (7 * k)), ← Nat.mul_assoc]
  have h1 : z / 128 * 128 * 2 ^ (7 * k) ≤ z * 2 ^ (7 * k) := Nat.mul_le_mul_right _ (by omega)
  omega
/-- Reading back, from byte number k on. -/
theorem dZ_enc (t : List Int) : ∀ (z k : Nat), k ≤ 9 → z * 2 ^ (7 * k) < 18446744073709551616 → (0 < k → 0 < z) → dZ k (encZ z ++ t) = .ok (z, (encZ z).length) := by
  intro z
  induction z using Nat.strongRecOn with
  | _ z ih =>
    intro k hk hz hp
    by_cases h : z < 128
    · rw [encZ_end h]
      simp only [List.singleton_append, dZ]
      rw [if_neg, if_pos (by omega)]
      · simp
      · rintro (⟨rfl, h1⟩ | ⟨h1, h2⟩)
        · have := z1_of hz
          omega
        · have := hp h1
          omega
    · have hk8 := k8_of (by omega) hz
      rw [encZ_step (by omega)]
      simp only [List.cons_append, dZ]
      rw [if_neg (by omega), if_neg (by omega), ih (z / 128) (by omega) (k + 1) (by omega) (div_bound hz) (by omega)]
      simp only [List.length_cons, Except.ok.injEq, Prod.mk.injEq, and_true]
      omega
theorem unzig_zig (n : Int) : unzig (zig n) = n := by
  unfold unzig zig
  split <;> split <;> omega
theorem zig_unzig (z : Nat) : zig (unzig z) = z := by
  unfold unzig zig
  split <;> split <;> omega
theorem dInt_enc {n : Int} (h : I64 n) (t : List Int) : dInt (eInt n ++ t) = (n, ((eInt n).length : Int), 0) := by
  unfold dInt eInt
  have := zig_lt n h.1 h.2
  rw [dZ_enc t (zig n) 0 (by omega) (by simpa using this) (by omega)]
  simp only [unzig_zig]
/-- What is decoded is an encoding. -/
theorem dZ_canon : ∀ (b : List Int) (k z u : Nat), Bytes8 b → dZ k b = .ok (z, u) → encZ z = b.take u ∧ (0 < k → 0 < z)
  | [], k, z, u, _, h => by simp [dZ] at h
  | c :: r, k, z, u, hb, h => by
    have hc0 := hb c (by simp)
    simp only [dZ] at h
    split at h
    · cases h
    · rename_i hbad
      split at h
      · rename_i hc
        simp only [Except.ok.injEq, Prod.mk.injEq] at h
        obtain ⟨rfl, rfl⟩ := h
        rw [encZ_end (by omega)]
        refine ⟨?_, by omega⟩
        simp only [List.take_succ_cons, List.take_zero, List.cons.injEq, and_true]
        omega
      · rename_i hc
        cases hr : dZ (k + 1) r with
        | error e => rw [hr] at h; cases h
        | ok p =>
          obtain ⟨z', u'⟩ := p
          rw [hr] at h
          simp only [Except.ok.injEq, Prod.mk.injEq] at h
          obtain ⟨rfl, rfl⟩ := h
          obtain ⟨h1, h2⟩ := dZ_canon r (k + 1) z' u' (fun x hx => hb x (by simp [hx])) hr
          have hz' := h2 (by omega)
          rw [encZ_step (by omega), show ((c - 128).toNat + 128 * z') / 128 = z' from by omega, show ((c - 128).toNat + 128 * z') % 128 = (c - 128).toNat from by omega, h1]
          refine ⟨?_, by omega⟩
          simp only [List.take_succ_cons, List.cons.injEq, and_true]
          omega
theorem dInt_canon {b : List Int} (hb : Bytes8 b) (h : (dInt b).2.2 = 0) : eInt (dInt b).1 = b.take (dInt b).2.1.toNat := by
  unfold dInt at *
  cases hd : dZ 0 b with
  | error e =>
    rw [hd] at h
    exfalso
    have : ∀ (b : List Int) (k : Nat) (e : Int), dZ k b = .error e → e = 10 ∨ e = 11 := by
      intro b
      induction b with
      | nil => intro k e h; simp only [dZ, Except.error.injEq] at h; omega
      | cons c r ih =>
        intro k e h
        simp only [dZ] at h
        split at h
        · simp only [Except.error.injEq] at h; omega
        · split at h
          · cases h
          · cases hr : dZ (k + 1) r with
            | error e' => rw [hr] at h; simp only [Except.error.injEq] at h; subst h; exact ih _ _ hr
            | ok p => rw [hr] at h; cases h
    have := this b 0 e hd
    simp only at h
    omega
  | ok p =>
    obtain ⟨z, u⟩ := p
    simp only [Int.toNat_natCast]
    unfold eInt
    rw [zig_unzig]
    exact (dZ_canon b 0 z u hb hd).1
/-- A proper prefix of an encoding. -/
theorem dZ_trunc : ∀ (z k i : Nat), k ≤ 9 → z * 2 ^ (7 * k) < 18446744073709551616 → i < (encZ z).length → dZ k ((encZ z).take i) = .error 10 := by
  intro z
  induction z using Nat.strongRecOn with
  | _ z ih =>
    intro k i hk hz hi
    cases i with
    | zero => rfl
    | succ i =>
      by_cases h : z < 128
      · rw [encZ_end h] at hi
        simp at hi
      · have hk8 := k8_of (by omega) hz
        rw [encZ_step (by omega)] at hi ⊢
        simp only [List.length_cons] at hi
        simp only [List.take_succ_cons, dZ]
        rw [if_neg (by omega), if_neg (by omega), ih (z / 128) (by omega) (k + 1) i (by omega) (div_bound hz) (by omega)]
theorem dInt_trunc {n : Int} (h : I64 n) {i : Nat} (hi : i < (eInt n).length) : dInt ((eInt n).take i) = (0, 0, 10) := by
  have := zig_lt n h.1 h.2
  unfold dInt
  unfold eInt at *
  rw [dZ_trunc (zig n) 0 i (by omega) (by simpa using this) hi]
end Go.Proofs.Ytfngbmcedkncjaa.Plain
