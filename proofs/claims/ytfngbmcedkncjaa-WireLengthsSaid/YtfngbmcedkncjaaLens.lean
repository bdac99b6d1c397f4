/- The plain laws of the lengths of encodings; prefixes. -/
import Derived.Test.YtfngbmcedkncjaaPure
set_option linter.unusedVariables false
set_option linter.unusedSimpArgs false
namespace Go.Proofs.Ytfngbmcedkncjaa
open Go.RowKit Go.Proofs.YtfngbmcedkncjaaW.PrintWords Plain
theorem encZ_mono : ∀ z y : Nat, z / 2 ≤ y / 2 → (encZ z).length ≤ (encZ y).length := by
  intro z
  induction z using Nat.strongRecOn with
  | _ z ih =>
    intro y h
    by_cases hz : z < 128
    · rw [encZ_end hz]
      have := encZ_pos y
      simp only [List.length_cons, List.length_nil]
      omega
    · rw [encZ_step (z := z) (by omega), encZ_step (z := y) (by omega)]
      simp only [List.length_cons]
      have := ih (z / 128) (by omega) (y / 128) (by omega)
      omega
theorem encZ_one (z : Nat) : (encZ z).length = 1 ↔ z < 128 := by
  constructor
  · intro h
    rcases Nat.lt_or_ge z 128 with hz | hz
    · exact hz
    · rw [encZ_step hz] at h
      have := encZ_pos (z / 128)
      simp only [List.length_cons] at h
      omega
  · intro h
    rw [encZ_end h]
    rfl
/-- How far from the middle. -/
def far (n : Int) : Int := if n < -1 - n then -1 - n else n
theorem far_half (n : Int) : ((zig n / 2 : Nat) : Int) = far n := by
  unfold far zig
  split <;> split <;> omega
theorem far_nonneg (n : Int) : 0 ≤ far n := by unfold far; split <;> omega
theorem eInt_mono {n m : Int} (h : far n ≤ far m) : (eInt n).length ≤ (eInt m).length := by
  unfold eInt
  refine encZ_mono _ _ ?_
  have h1 := far_half n
  have h2 := far_half m
  omega
theorem eInt_one (n : Int) : (eInt n).length = 1 ↔ far n < 64 := by
  unfold eInt
  rw [encZ_one, ← far_half]
  omega
theorem far_neg (n : Int) : far (-1 - n) = far n := by unfold far; split <;> split <;> omega
theorem eInt_neg (n : Int) : (eInt (-1 - n)).length = (eInt n).length :=
  Nat.le_antisymm (eInt_mono (by rw [far_neg]; exact Int.le_refl _)) (eInt_mono (by rw [far_neg]; exact Int.le_refl _))
theorem prefix_le {n m : Int} (hn : I64 n) (hm : I64 m) (hl : (eInt n).length ≤ (eInt m).length) (h : (eInt n).take (eInt n).length = (eInt m).take (eInt n).length) : n = m := by
  rw [List.take_length] at h
  have h1 := dInt_enc hn ((eInt m).drop (eInt n).length)
  have h2 := dInt_enc hm []
  have e : eInt n ++ (eInt m).drop (eInt n).length = eInt m ++ [] := by
    conv => lhs; lhs; rw [h]
    rw [List.take_append_drop, List.append_nil]
  rw [e, h2] at h1
  simp only [Prod.mk.injEq] at h1
  exact h1.1.symm
theorem prefix_eq {n m : Int} (hn : I64 n) (hm : I64 m) {k : Nat} (hk : k = min (eInt n).length (eInt m).length) : ((eInt n).take k = (eInt m).take k) ↔ n = m := by
  constructor
  · intro h
    rcases Nat.le_total (eInt n).length (eInt m).length with hl | hl
    · rw [hk, Nat.min_eq_left hl] at h
      exact prefix_le hn hm hl h
    · rw [hk, Nat.min_eq_right hl] at h
      exact (prefix_le hm hn hl h.symm).symm
  · rintro rfl
    rfl
end Go.Proofs.Ytfngbmcedkncjaa
