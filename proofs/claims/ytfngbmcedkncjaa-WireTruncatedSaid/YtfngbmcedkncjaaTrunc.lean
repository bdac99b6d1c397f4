/- The plain law of truncation: a proper beginning of an encoding decodes with error 10. -/
import Derived.Test.YtfngbmcedkncjaaBack
set_option linter.unusedVariables false
set_option linter.unusedSimpArgs false
namespace Go.Proofs.Ytfngbmcedkncjaa
open Go.RowKit Go.Proofs.YtfngbmcedkncjaaW.PrintWords Plain
/-- The length ahead of a proper beginning: cut itself, or whole. -/
theorem dLen_cut {n m i : Nat} (hn : n ≤ 9223372036854775807) (hm : 1 ≤ m) {t : List Int} (hi : i < (eInt (n : Int) ++ t).length) :
    dLen ((eInt (n : Int) ++ t).take i) m = (0, 0, 10) ∨ ((eInt (n : Int)).length ≤ i ∧ n * m ≤ i - (eInt (n : Int)).length ∧ dLen ((eInt (n : Int) ++ t).take i) m = ((n : Int), ((eInt (n : Int)).length : Int), 0)) := by
  by_cases h : i < (eInt (n : Int)).length
  · left
    rw [List.take_append_of_le_length (by omega), dLen_eq, dInt_trunc (i64_len hn) h]
    rfl
  · have e : (eInt (n : Int) ++ t).take i = eInt (n : Int) ++ t.take (i - (eInt (n : Int)).length) := by
      rw [List.take_append]
      rw [List.take_of_length_le (by omega)]
    have hl : (t.take (i - (eInt (n : Int)).length)).length = i - (eInt (n : Int)).length := by
      rw [List.length_append] at hi
      rw [List.length_take]
      omega
    rw [e]
    by_cases hb : n * m ≤ i - (eInt (n : Int)).length
    · right
      exact ⟨by omega, hb, dLen_enc hn hm (by rw [hl]; exact hb)⟩
    · left
      rw [dLen_eq, dInt_enc (i64_len hn)]
      refine (lenOf_big (by omega) ?_).symm
      rw [List.length_append, hl]
      have e2 : (((eInt (n : Int)).length + (i - (eInt (n : Int)).length) : Nat) : Int) - ((eInt (n : Int)).length : Int) = ((i - (eInt (n : Int)).length : Nat) : Int) := by omega
      rw [e2]
      have h1 := (Nat.div_lt_iff_lt_mul (show 0 < m by omega)).2 (show i - (eInt (n : Int)).length < n * m by omega)
      have h2 : (((i - (eInt (n : Int)).length) / m : Nat) : Int) < (n : Int) := by exact_mod_cast h1
      rw [Int.natCast_ediv] at h2
      exact h2
theorem dBytes_trunc {s : ByteArray} (hs : s.size ≤ 9223372036854775807) {i : Nat} (hi : i < (eBytes s).length) : (dBytes ((eBytes s).take i)).2.2 = 10 := by
  rw [dBytes_eq]
  have hb : (bytesOf s).length = s.size := bytesOf_length s
  rcases dLen_cut (m := 1) hs (Nat.le_refl 1) (t := bytesOf s) hi with h | ⟨h1, h2, _⟩
  · rw [eBytes, h]
    rfl
  · rw [eBytes, List.length_append] at hi
    omega
/-- Elements one behind the other, cut somewhere. -/
theorem dList_cut {α : Type} (one : List Int → α × Int × Int) (enc : α → List Int) : ∀ (l : List α), (∀ x ∈ l, ∀ t, one (enc x ++ t) = (x, ((enc x).length : Int), 0)) → (∀ x ∈ l, ∀ i, i < (enc x).length → (one ((enc x).take i)).2.2 = 10) →
    ∀ (pre : List Int) (i : Nat), i < (l.flatMap enc).length → (dList one (pre ++ (l.flatMap enc).take i) l.length (pre.length : Int)).2.2 = 10
  | [], _, _, pre, i, hi => by simp at hi
  | x :: l, h, hc, pre, i, hi => by
    rw [List.length_cons, dList_succ, Int.toNat_natCast, List.drop_left, List.flatMap_cons]
    rw [List.flatMap_cons, List.length_append] at hi
    by_cases hx : i < (enc x).length
    · rw [List.take_append_of_le_length (by omega)]
      have := hc x (by simp) i hx
      rw [if_pos (by rw [this]; decide)]
      exact this
    · have e : (enc x ++ l.flatMap enc).take i = enc x ++ (l.flatMap enc).take (i - (enc x).length) := by
        rw [List.take_append, List.take_of_length_le (by omega)]
      rw [e, h x (by simp)]
      rw [if_neg (by simp)]
      have ih := dList_cut one enc l (fun y hy => h y (by simp [hy])) (fun y hy => hc y (by simp [hy])) (pre ++ enc x) (i - (enc x).length) (by omega)
      rw [List.length_append, List.append_assoc] at ih
      have e2 : (pre.length : Int) + ((enc x).length : Int) = ((pre.length + (enc x).length : Nat) : Int) := by omega
      simp only
      rw [e2]
      generalize dList one (pre ++ (enc x ++ (l.flatMap enc).take (i - (enc x).length))) l.length ((pre.length + (enc x).length : Nat) : Int) = r at *
      obtain ⟨r1, r2, r3⟩ := r
      simp only at ih
      subst ih
      rw [app_err _ (by decide)]
theorem dGet_trunc {α : Type} (m : Nat) (hm : 1 ≤ m) (one : List Int → α × Int × Int) (enc : α → List Int) {l : List α} (hl : l.length ≤ 9223372036854775807) (h : ∀ x ∈ l, ∀ t, one (enc x ++ t) = (x, ((enc x).length : Int), 0)) (hc : ∀ x ∈ l, ∀ i, i < (enc x).length → (one ((enc x).take i)).2.2 = 10)
    {i : Nat} (hi : i < (eInt (l.length : Int) ++ l.flatMap enc).length) : (dGet m one ((eInt (l.length : Int) ++ l.flatMap enc).take i)).2.2 = 10 := by
  rw [dGet_eq]
  rcases dLen_cut (m := m) hl hm hi with h1 | ⟨h1, h2, h3⟩
  · rw [h1]
    rfl
  · rw [h3]
    have e : (eInt (l.length : Int) ++ l.flatMap enc).take i = eInt (l.length : Int) ++ (l.flatMap enc).take (i - (eInt (l.length : Int)).length) := by
      rw [List.take_append, List.take_of_length_le (by omega)]
    rw [e]
    unfold getOf
    rw [if_neg (by simp)]
    simp only [Int.toNat_natCast]
    exact dList_cut one enc l h hc _ _ (by rw [List.length_append] at hi; omega)
theorem dInts_trunc {l : List Int} (hl : l.length ≤ 9223372036854775807) (h : ∀ x ∈ l, I64 x) {i : Nat} (hi : i < (eInts l).length) : (dInts ((eInts l).take i)).2.2 = 10 :=
  dGet_trunc 1 (Nat.le_refl 1) dInt eInt hl (fun x hx t => dInt_enc (h x hx) t) (fun x hx i hi => by rw [dInt_trunc (h x hx) hi]) hi
theorem dStrs_trunc {l : List ByteArray} (hl : l.length ≤ 9223372036854775807) (h : ∀ x ∈ l, x.size ≤ 9223372036854775807) {i : Nat} (hi : i < (eStrs l).length) : (dStrs ((eStrs l).take i)).2.2 = 10 :=
  dGet_trunc 1 (Nat.le_refl 1) dBytes eBytes hl (fun x hx t => dBytes_enc (h x hx) t) (fun x hx i hi => dBytes_trunc (h x hx) hi) hi
theorem dDigs_trunc {l : List (List Int)} (hl : l.length ≤ 9223372036854775807) (h : ∀ x ∈ l, x.length = 16) {i : Nat} (hi : i < (eDigs l).length) : (dDigs ((eDigs l).take i)).2.2 = 10 := by
  unfold dDigs
  rw [dGet_eq]
  have hf : l.flatten.length = l.length * 16 := by
    clear hi hl
    induction l with
    | nil => rfl
    | cons x l ih =>
      rw [List.flatten_cons, List.length_append, h x (by simp), ih (fun y hy => h y (by simp [hy])), List.length_cons]
      omega
  rcases dLen_cut (m := 16) hl (by omega) (t := l.flatten) hi with h1 | ⟨h1, h2, _⟩
  · rw [eDigs, h1]
    rfl
  · rw [eDigs, List.length_append] at hi
    omega
end Go.Proofs.Ytfngbmcedkncjaa
