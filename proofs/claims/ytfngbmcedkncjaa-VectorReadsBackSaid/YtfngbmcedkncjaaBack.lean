/- The plain laws of reading back: what is encoded, with anything behind it, decodes to itself. -/
import Derived.Test.YtfngbmcedkncjaaCanon
set_option linter.unusedVariables false
set_option linter.unusedSimpArgs false
namespace Go.Proofs.Ytfngbmcedkncjaa
open Go.RowKit Go.Proofs.YtfngbmcedkncjaaW.PrintWords Plain

theorem strOfNums_bytesOf (s : ByteArray) : strOfNums (bytesOf s) = s := by
  have h : (strOfNums (bytesOf s)).data.toList = s.data.toList := by
    rw [strOfNums_data, bytesOf, List.map_map]
    conv => rhs; rw [← List.map_id s.data.toList]
    apply List.map_congr_left
    intro x _
    simp
  cases s with
  | mk d =>
    cases hx : strOfNums (bytesOf ⟨d⟩) with
    | mk d' =>
      rw [hx] at h
      simp only at h
      congr 1
      exact Array.toList_inj.1 h
theorem bytesOf_bytes (s : ByteArray) : Bytes8 (bytesOf s) := by
  intro x hx
  unfold bytesOf at hx
  obtain ⟨b, _, rfl⟩ := List.mem_map.1 hx
  have := b.toNat_lt
  omega
theorem bytes8_append {a b : List Int} (ha : Bytes8 a) (hb : Bytes8 b) : Bytes8 (a ++ b) := by
  intro x hx
  rcases List.mem_append.1 hx with h | h
  · exact ha x h
  · exact hb x h
theorem bytes8_flat {α : Type} {f : α → List Int} {l : List α} (h : ∀ x ∈ l, Bytes8 (f x)) : Bytes8 (l.flatMap f) := by
  intro x hx
  obtain ⟨y, hy, hxy⟩ := List.mem_flatMap.1 hx
  exact h y hy x hxy
theorem i64_len {n : Nat} (h : n ≤ 9223372036854775807) : I64 (n : Int) := by unfold I64; omega
theorem eBytes_bytes {s : ByteArray} (h : s.size ≤ 9223372036854775807) : Bytes8 (eBytes s) := bytes8_append (eInt_bytes (i64_len h)) (bytesOf_bytes s)
theorem eInts_bytes {l : List Int} (h : l.length ≤ 9223372036854775807) (hl : ∀ x ∈ l, I64 x) : Bytes8 (eInts l) := bytes8_append (eInt_bytes (i64_len h)) (bytes8_flat fun x hx => eInt_bytes (hl x hx))
theorem eStrs_bytes {l : List ByteArray} (h : l.length ≤ 9223372036854775807) (hl : ∀ x ∈ l, x.size ≤ 9223372036854775807) : Bytes8 (eStrs l) := bytes8_append (eInt_bytes (i64_len h)) (bytes8_flat fun x hx => eBytes_bytes (hl x hx))
theorem eDigs_bytes {l : List (List Int)} (h : l.length ≤ 9223372036854775807) (hl : ∀ x ∈ l, Bytes8 x) : Bytes8 (eDigs l) := by
  refine bytes8_append (eInt_bytes (i64_len h)) ?_
  intro x hx
  obtain ⟨y, hy, hxy⟩ := List.mem_flatten.1 hx
  exact hl y hy x hxy
theorem dLen_enc {n m : Nat} (hn : n ≤ 9223372036854775807) (hm : 1 ≤ m) {t : List Int} (ht : n * m ≤ t.length) : dLen (eInt (n : Int) ++ t) m = ((n : Int), ((eInt (n : Int)).length : Int), 0) := by
  rw [dLen_eq, dInt_enc (i64_len hn)]
  refine (lenOf_ok (by omega) ?_).symm
  rw [List.length_append]
  have e : (((eInt (n : Int)).length + t.length : Nat) : Int) - ((eInt (n : Int)).length : Int) = (t.length : Int) := by omega
  rw [e]
  have h := (Nat.le_div_iff_mul_le (show 0 < m by omega)).2 ht
  have h' : (n : Int) ≤ ((t.length / m : Nat) : Int) := by exact_mod_cast h
  rw [Int.natCast_ediv] at h'
  exact h'
theorem dBytes_enc {s : ByteArray} (hs : s.size ≤ 9223372036854775807) (t : List Int) : dBytes (eBytes s ++ t) = (s, ((eBytes s).length : Int), 0) := by
  have hd : dLen (eBytes s ++ t) 1 = ((s.size : Int), ((eInt (s.size : Int)).length : Int), 0) := by
    rw [eBytes, List.append_assoc]
    refine dLen_enc hs (Nat.le_refl 1) ?_
    rw [List.length_append, bytesOf_length]
    omega
  rw [dBytes_eq, hd]
  unfold bytesOf1
  rw [if_neg (by simp)]
  simp only [Int.toNat_natCast]
  have e1 : (eBytes s ++ t).drop (eInt (s.size : Int)).length = bytesOf s ++ t := by
    rw [eBytes, List.append_assoc, List.drop_left]
  have e2 : (bytesOf s ++ t).take s.size = bytesOf s := by
    rw [← bytesOf_length, List.take_left]
  rw [e1, e2, strOfNums_bytesOf]
  have e3 : (eBytes s).length = (eInt (s.size : Int)).length + s.size := by rw [eBytes, List.length_append, bytesOf_length]
  rw [e3]
  simp
/-- Elements one behind the other, read back. -/
theorem dList_enc {α : Type} (one : List Int → α × Int × Int) (enc : α → List Int) (t : List Int) : ∀ (l : List α), (∀ x ∈ l, ∀ t, one (enc x ++ t) = (x, ((enc x).length : Int), 0)) → ∀ pre : List Int,
    dList one (pre ++ (l.flatMap enc ++ t)) l.length (pre.length : Int) = (l, ((pre.length + (l.flatMap enc).length : Nat) : Int), 0)
  | [], _, pre => by simp [dList_zero]
  | x :: l, h, pre => by
    rw [List.length_cons, dList_succ, Int.toNat_natCast, List.drop_left, List.flatMap_cons, List.append_assoc, h x (by simp)]
    rw [if_neg (by simp)]
    have ih := dList_enc one enc t l (fun y hy => h y (by simp [hy])) (pre ++ enc x)
    rw [List.length_append, List.append_assoc] at ih
    have e : (pre.length : Int) + ((enc x).length : Int) = ((pre.length + (enc x).length : Nat) : Int) := by omega
    simp only
    rw [e, ih, app_ok]
    simp only [List.singleton_append, List.length_append, Prod.mk.injEq, true_and, and_true]
    omega
theorem flat_ge {α : Type} (f : α → List Int) (m : Nat) : ∀ l : List α, (∀ x ∈ l, m ≤ (f x).length) → l.length * m ≤ (l.flatMap f).length
  | [], _ => by simp
  | x :: l, h => by
    have h1 := h x (by simp)
    have h2 := flat_ge f m l (fun y hy => h y (by simp [hy]))
    rw [List.flatMap_cons, List.length_append, List.length_cons, Nat.add_mul]
    omega
theorem dGet_enc {α : Type} (m : Nat) (hm : 1 ≤ m) (one : List Int → α × Int × Int) (enc : α → List Int) {l : List α} (hl : l.length ≤ 9223372036854775807) (hf : l.length * m ≤ (l.flatMap enc).length) (h : ∀ x ∈ l, ∀ t, one (enc x ++ t) = (x, ((enc x).length : Int), 0)) (t : List Int) :
    dGet m one (eInt (l.length : Int) ++ l.flatMap enc ++ t) = (l, ((eInt (l.length : Int) ++ l.flatMap enc).length : Int), 0) := by
  rw [List.append_assoc, dGet_eq, dLen_enc hl hm (by rw [List.length_append]; omega)]
  unfold getOf
  rw [if_neg (by simp)]
  simp only [Int.toNat_natCast]
  rw [dList_enc one enc t l h, List.length_append]
theorem dInts_enc {l : List Int} (hl : l.length ≤ 9223372036854775807) (h : ∀ x ∈ l, I64 x) (t : List Int) : dInts (eInts l ++ t) = (l, ((eInts l).length : Int), 0) :=
  dGet_enc 1 (Nat.le_refl 1) dInt eInt hl (flat_ge eInt 1 l (fun x _ => eInt_pos x)) (fun x hx t => dInt_enc (h x hx) t) t
theorem eBytes_pos (s : ByteArray) : 0 < (eBytes s).length := by
  rw [eBytes, List.length_append]
  have := eInt_pos (s.size : Int)
  omega
theorem dStrs_enc {l : List ByteArray} (hl : l.length ≤ 9223372036854775807) (h : ∀ x ∈ l, x.size ≤ 9223372036854775807) (t : List Int) : dStrs (eStrs l ++ t) = (l, ((eStrs l).length : Int), 0) :=
  dGet_enc 1 (Nat.le_refl 1) dBytes eBytes hl (flat_ge eBytes 1 l (fun x _ => eBytes_pos x)) (fun x hx t => dBytes_enc (h x hx) t) t
theorem flatMap_flatten (l : List (List Int)) : l.flatMap (fun x => x) = l.flatten := by
  rw [List.flatMap_def, List.map_id']
theorem dDigs_enc {l : List (List Int)} (hl : l.length ≤ 9223372036854775807) (h : ∀ x ∈ l, x.length = 16) (t : List Int) : dDigs (eDigs l ++ t) = (l, ((eDigs l).length : Int), 0) := by
  have := dGet_enc 16 (by omega) dDig (fun x => x) hl (flat_ge _ 16 l (fun x hx => by rw [h x hx]; exact Nat.le_refl _)) (fun x hx t => by
    have e := h x hx
    show (((x ++ t).take 16, 16, 0) : List Int × Int × Int) = _
    rw [e, ← e, List.take_left, e]; rfl) t
  rw [flatMap_flatten] at this
  exact this
end Go.Proofs.Ytfngbmcedkncjaa
