/- The plain canonical laws: what decodes is, as far as it was used, the encoding of what it decodes to. -/
import Derived.Test.YtfngbmcedkncjaaGetD
import Derived.Test.YtfngbmcedkncjaaSame
import Derived.Test.YtfngbmcedkncjaaPure
set_option linter.unusedVariables false
set_option linter.unusedSimpArgs false
namespace Go.Proofs.Ytfngbmcedkncjaa
open Go.RowKit Go.Proofs.YtfngbmcedkncjaaW.PrintWords Plain

theorem bytesOf_strOfNums {l : List Int} (h : Bytes8 l) : bytesOf (strOfNums l) = l := by
  unfold bytesOf
  rw [strOfNums_data, List.map_map]
  induction l with
  | nil => rfl
  | cons x l ih =>
    have hx := h x (by simp)
    rw [List.map_cons, ih (fun y hy => h y (by simp [hy]))]
    congr 1
    simp only [Function.comp]
    rw [UInt8.toNat_ofNat']
    omega
theorem strOfNums_size (l : List Int) : (strOfNums l).size = l.length := by
  rw [← bytesOf_length, bytesOf, strOfNums_data]
  simp
theorem bytes8_take {b : List Int} (h : Bytes8 b) (n : Nat) : Bytes8 (b.take n) := fun x hx => h x (List.mem_of_mem_take hx)
theorem take_take_drop {α : Type} (b : List α) (u n : Nat) : b.take u ++ (b.drop u).take n = b.take (u + n) := by
  rw [List.take_add]
/-- What is used up is the encoding. -/
def Canon {α : Type} (enc : α → List Int) (b : List Int) (t : α × Int × Int) : Prop := t.2.2 ≠ 0 ∨ (0 ≤ t.2.1 ∧ t.2.1 ≤ b.length ∧ enc t.1 = b.take t.2.1.toNat)
theorem dInt_Canon {b : List Int} (hb : Bytes8 b) : Canon eInt b (dInt b) := by
  by_cases h : (dInt b).2.2 = 0
  · have h1 := dInt_range hb
    exact .inr ⟨h1.2.1, h1.2.2.1, dInt_canon hb h⟩
  · exact .inl h
/-- The length that is read ahead. -/
theorem dLen_ok {b : List Int} {m : Nat} (hb : Bytes8 b) (hm : 1 ≤ m) (h : (dLen b m).2.2 = 0) : ∃ n u : Nat, dLen b m = ((n : Int), (u : Int), 0) ∧ eInt (n : Int) = b.take u ∧ 1 ≤ u ∧ u + n * m ≤ b.length := by
  obtain ⟨h1, h2, h3, h4⟩ := dLen_range hb hm
  obtain ⟨h5, h6, h7, h8⟩ := h3 h
  have hd : dLen b m = dInt b := by
    rw [dLen_eq] at h ⊢
    unfold lenOf at h ⊢
    split at h
    · exact absurd h (by assumption)
    · split at h
      · exact absurd h (by decide)
      · split at h
        · exact absurd h (by decide)
        · rename_i a b c; rw [if_neg a, if_neg b, if_neg c]
  have hc := dInt_canon hb (by rw [← hd]; exact h)
  rw [← hd] at hc
  generalize dLen b m = t at *
  obtain ⟨n, u, e⟩ := t
  simp only at *
  subst h
  refine ⟨n.toNat, u.toNat, by rw [Int.toNat_of_nonneg h5, Int.toNat_of_nonneg (by omega)], by rw [Int.toNat_of_nonneg h5]; exact hc, by omega, ?_⟩
  have : ((n.toNat * m : Nat) : Int) = n * m := by rw [Int.natCast_mul, Int.toNat_of_nonneg h5]
  omega
theorem dBytes_props {b : List Int} (hb : Bytes8 b) : (dBytes b).1.size ≤ b.length ∧ Canon eBytes b (dBytes b) ∧ ((dBytes b).2.2 = 0 → 1 ≤ (dBytes b).2.1) := by
  rw [dBytes_eq]
  by_cases h : (dLen b 1).2.2 = 0
  · obtain ⟨n, u, hd, he, hu, hl⟩ := dLen_ok hb (Nat.le_refl 1) h
    rw [hd]
    have hX : ((b.drop u).take n).length = n := by simp; omega
    have e : bytesOf1 ((n : Int), (u : Int), 0) b = (strOfNums ((b.drop u).take n), ((u + n : Nat) : Int), 0) := by simp [bytesOf1]
    rw [e]
    refine ⟨by rw [strOfNums_size, hX]; omega, .inr ⟨by simp only; omega, by simp only; omega, ?_⟩, fun _ => by simp only; omega⟩
    simp only [Int.toNat_natCast]
    rw [eBytes, strOfNums_size, hX, bytesOf_strOfNums (bytes8_take (bytes8_drop hb _) _), he, take_take_drop]
  · have e : bytesOf1 (dLen b 1) b = (⟨#[]⟩, 0, (dLen b 1).2.2) := by simp [bytesOf1, h]
    rw [e]
    exact ⟨Nat.zero_le _, .inl h, fun hh => absurd hh h⟩
/-- Elements one behind the other. -/
theorem dList_props {α : Type} (one : List Int → α × Int × Int) (enc : α → List Int) (Q : α → Prop) (b : List Int)
    (H : ∀ p : Nat, (one (b.drop p)).2.2 = 0 → Q (one (b.drop p)).1 ∧ 0 ≤ (one (b.drop p)).2.1 ∧ (one (b.drop p)).2.1 ≤ (b.drop p).length ∧ enc (one (b.drop p)).1 = (b.drop p).take (one (b.drop p)).2.1.toNat) :
    ∀ (n p : Nat), p ≤ b.length → (∃ e, e ≠ 0 ∧ dList one b n (p : Int) = ([], 0, e)) ∨ ∃ (l : List α) (q : Nat), dList one b n (p : Int) = (l, ((p + q : Nat) : Int), 0) ∧ l.length = n ∧ (∀ x ∈ l, Q x) ∧ p + q ≤ b.length ∧ l.flatMap enc = (b.drop p).take q
  | 0, p, hp => .inr ⟨[], 0, rfl, rfl, by simp, by omega, by simp⟩
  | n + 1, p, hp => by
    rw [dList_succ]
    rw [Int.toNat_natCast]
    by_cases h : (one (b.drop p)).2.2 = 0
    · obtain ⟨hQ, h0, h1, hE⟩ := H p h
      rw [if_neg (by simpa using h)]
      rw [List.length_drop] at h1
      have hq : (p : Int) + (one (b.drop p)).2.1 = ((p + (one (b.drop p)).2.1.toNat : Nat) : Int) := by omega
      rw [hq]
      generalize (one (b.drop p)).1 = x at *
      generalize (one (b.drop p)).2.1.toNat = u at *
      rcases dList_props one enc Q b H n (p + u) (by omega) with ⟨e, he, hd⟩ | ⟨l, q, hd, hl, hQl, hle, hfl⟩
      · left
        rw [hd]
        exact ⟨e, he, app_err _ he⟩
      · right
        rw [hd, app_ok]
        refine ⟨x :: l, u + q, by rw [Nat.add_assoc]; rfl, by simp [hl], ?_, by omega, ?_⟩
        · intro y hy
          rcases List.mem_cons.1 hy with rfl | hy
          · exact hQ
          · exact hQl y hy
        · rw [List.flatMap_cons, hE, hfl, ← List.drop_drop, take_take_drop]
    · left
      exact ⟨_, h, by rw [if_pos h]⟩
theorem dGet_props {α : Type} (m : Nat) (hm : 1 ≤ m) (one : List Int → α × Int × Int) (enc : α → List Int) (Q : α → Prop) {b : List Int} (hb : Bytes8 b)
    (H : ∀ p : Nat, (one (b.drop p)).2.2 = 0 → Q (one (b.drop p)).1 ∧ 0 ≤ (one (b.drop p)).2.1 ∧ (one (b.drop p)).2.1 ≤ (b.drop p).length ∧ enc (one (b.drop p)).1 = (b.drop p).take (one (b.drop p)).2.1.toNat) :
    (dGet m one b).1.length * m ≤ b.length ∧ (∀ x ∈ (dGet m one b).1, Q x) ∧ ((dGet m one b).1.flatMap enc).length ≤ b.length ∧ Canon (fun l => eInt (l.length : Int) ++ l.flatMap enc) b (dGet m one b) := by
  rw [dGet_eq]
  by_cases h : (dLen b m).2.2 = 0
  · obtain ⟨n, u, hd, he, hu, hl⟩ := dLen_ok hb hm h
    rw [hd]
    have e : getOf ((n : Int), (u : Int), 0) one b = dList one b n (u : Int) := by simp [getOf]
    rw [e]
    have hle : u ≤ b.length := by have := Nat.zero_le (n * m); omega
    rcases dList_props one enc Q b H n u hle with ⟨e, he, hd⟩ | ⟨l, q, hd, hln, hQ, hq, hfl⟩
    · rw [hd]
      exact ⟨by simp, by simp, by simp, .inl he⟩
    · rw [hd]
      refine ⟨by simp only; rw [hln]; omega, hQ, ?_, .inr ⟨by simp only; omega, by simp only; omega, ?_⟩⟩
      · simp only
        rw [hfl, List.length_take, List.length_drop]
        omega
      · simp only [Int.toNat_natCast]
        rw [hln, he, hfl, take_take_drop]
  · have e : getOf (dLen b m) one b = ([], 0, (dLen b m).2.2) := by simp [getOf, h]
    rw [e]
    exact ⟨by simp, by simp, by simp, .inl h⟩
theorem dInts_props {b : List Int} (hb : Bytes8 b) : (dInts b).1.length ≤ b.length ∧ (∀ x ∈ (dInts b).1, I64 x) ∧ Canon eInts b (dInts b) := by
  have h := dGet_props 1 (Nat.le_refl 1) dInt eInt I64 hb (fun p hp => by
    have h1 := dInt_range (bytes8_drop hb p)
    exact ⟨h1.1, h1.2.1, h1.2.2.1, dInt_canon (bytes8_drop hb p) hp⟩)
  exact ⟨by have := h.1; rw [Nat.mul_one] at this; exact this, h.2.1, h.2.2.2⟩
theorem dStrs_props {b : List Int} (hb : Bytes8 b) : (dStrs b).1.length ≤ b.length ∧ ((dStrs b).1.flatMap eBytes).length ≤ b.length ∧ Canon eStrs b (dStrs b) := by
  have h := dGet_props 1 (Nat.le_refl 1) dBytes eBytes (fun _ => True) hb (fun p hp => by
    have h1 := dBytes_props (bytes8_drop hb p)
    rcases h1.2.1 with h2 | ⟨h2, h3, h4⟩
    · exact absurd hp h2
    · exact ⟨trivial, h2, h3, h4⟩)
  exact ⟨by have := h.1; rw [Nat.mul_one] at this; exact this, h.2.2.1, h.2.2.2⟩
/-- Chunks of 16 bytes. -/
theorem dList_dig (b : List Int) : ∀ (n p : Nat), p + n * 16 ≤ b.length → ∃ l, dList dDig b n (p : Int) = (l, ((p + n * 16 : Nat) : Int), 0) ∧ l.length = n ∧ l.flatten = (b.drop p).take (n * 16)
  | 0, p, hp => ⟨[], by simp [dList_zero], rfl, by simp⟩
  | n + 1, p, hp => by
    obtain ⟨l, hd, hl, hf⟩ := dList_dig b n (p + 16) (by omega)
    rw [dList_succ, Int.toNat_natCast]
    have e : (p : Int) + (dDig (b.drop p)).2.1 = ((p + 16 : Nat) : Int) := by simp [dDig]
    rw [e, hd]
    refine ⟨(b.drop p).take 16 :: l, ?_, by simp [hl], ?_⟩
    · rw [if_neg (by simp [dDig]), app_ok]
      simp only [dDig, Prod.mk.injEq, true_and, and_true]
      exact ⟨rfl, by omega⟩
    · rw [List.flatten_cons, hf, ← List.drop_drop, take_take_drop, show (n + 1) * 16 = 16 + n * 16 from by omega]
theorem dDigs_props {b : List Int} (hb : Bytes8 b) : (dDigs b).1.length * 16 ≤ b.length ∧ Canon eDigs b (dDigs b) := by
  unfold dDigs
  rw [dGet_eq]
  by_cases h : (dLen b 16).2.2 = 0
  · obtain ⟨n, u, hd, he, hu, hl⟩ := dLen_ok hb (by omega) h
    rw [hd]
    have e : getOf ((n : Int), (u : Int), 0) dDig b = dList dDig b n (u : Int) := by simp [getOf]
    obtain ⟨l, hd, hln, hf⟩ := dList_dig b n u (by omega)
    rw [e, hd]
    refine ⟨by simp only; rw [hln]; omega, .inr ⟨by simp only; omega, by simp only; omega, ?_⟩⟩
    simp only [Int.toNat_natCast]
    rw [eDigs, hln, he, hf, take_take_drop]
  · have e : getOf (dLen b 16) dDig b = ([], 0, (dLen b 16).2.2) := by simp [getOf, h]
    rw [e]
    exact ⟨by simp, .inl h⟩
end Go.Proofs.Ytfngbmcedkncjaa
