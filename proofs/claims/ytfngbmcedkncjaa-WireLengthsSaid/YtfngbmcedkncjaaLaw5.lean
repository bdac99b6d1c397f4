/- WireLengths (5): the walk. -/
import Derived.Test.YtfngbmcedkncjaaSane
import Derived.Test.YtfngbmcedkncjaaLens
import Derived.Test.YtfngbmcedkncjaaCons
namespace Go.Proofs.Ytfngbmcedkncjaa
open Go.RowKit Go.Proofs.YtfngbmcedkncjaaW.PrintWords Go.Proofs.YtfngbmcedkncjaaW.PrintLast Go.Proofs.YtfngbmcedkncjaaW.PrintMore Plain
attribute [local go_sem] max2_int min2_int max_two min_two max_three min_three max_four min_four
set_option linter.unusedVariables false
set_option linter.unusedSimpArgs false

theorem bel_drew {B : Nat} {w w' : World} (h : Bel B w w') : Bel B w w'.drew := h.drewN 1
theorem c_drew {w : World} {A : Option Addr} {n : Nat} {l : List Int} (h : Aside0 (Kd.C (Kd.int .u8) w A n l)) : Aside0 (Kd.C (Kd.int .u8) w.drew A n l) := ⟨Kd.C_drew h.out⟩
set_option maxHeartbeats 2000000 in
set_option maxRecDepth 100000 in
theorem law5 (n m : Int) (hn : I64 n) (hm : I64 m) (w : World) :
    Calls Try.prog 5 #[.int .i64 n, .int .i64 m] w fun e w' => e = .returned (.bool true) ∧ Bel w.heap.size w w' := by
  have HN := Aside0.mk hn
  have HM := Aside0.mk hm
  have wn : wrap64 (-1 - n) = -1 - n := wrap64_id (by have := hn.2; omega) (by have := hn.1; omega)
  have wm : wrap64 (-1 - m) = -1 - m := wrap64_id (by have := hm.2; omega) (by have := hm.1; omega)
  have fn : (if n < -1 - n then -1 - n else n) = far n := rfl
  have fm : (if m < -1 - m then -1 - m else m) = far m := rfl
  have WN : Aside0 (IntKind.i64.wrap (-1 - n) = -1 - n) := ⟨by have h1 := hn.1; have h2 := hn.2; simp [IntKind.wrap, IntKind.bits, IntKind.signed]; omega⟩
  clear hn hm
  go_enter Try.func5, Try.ntmps5
  go_wp2_with fail
  refine (Int_calls n HN.out _).mono ?_
  rintro e w1 ⟨v1, rfl, HO1, HB⟩
  go_wp2_with fail
  refine (Int_calls m HM.out _).mono ?_
  rintro e w2 ⟨v2, rfl, HO2, hb⟩
  replace HO1 := HO1.bel hb
  replace HB := HB.trans hb
  clear hb
  obtain ⟨A1, c1, rfl, hc1, hC1⟩ := HO1.reads
  obtain ⟨A2, c2, rfl, hc2, hC2⟩ := HO2.reads
  have HC1 := Aside0.mk hC1
  have HC2 := Aside0.mk hC2
  clear hC1 hC2 HO1 HO2
  have l1 := eInt_pos n
  have l2 := eInt_pos m
  have l3 := eInt_length HN.out
  have l4 := eInt_length HM.out
  have m1 := @eInt_mono n m
  have m2 := @eInt_mono m n
  have o1 := eInt_one n
  have HT1 := Aside0.mk (eInt_neg n)
  have HT2 := Aside0.mk (prefix_eq HN.out HM.out rfl)
  have HX1 := Aside0.mk (eInt_bytes HN.out)
  have HX2 := Aside0.mk (eInt_bytes HM.out)
  have HNN : Aside0 (I64 (-1 - n)) := ⟨by have := HN.out; unfold I64 at *; omega⟩
  generalize far n = fa at *
  generalize far m = fb at *
  generalize hX : eInt n = X at *
  generalize hY : eInt m = Y at *
  clear hX hY
  have hlaw : (((decide (fa ≤ fb) && decide (Y.length < X.length)) || (decide (fb ≤ fa) && decide (X.length < Y.length)))) = false := by
    by_cases h1 : fa ≤ fb
    · by_cases h2 : fb ≤ fa
      · have := m1 h1; have := m2 h2; simp; omega
      · have := m1 h1; simp; omega
    · have := m2 (by omega); simp; omega
  have hone : ((X.length : Int) == 1) = decide (fa < 64) := by
    rw [Bool.eq_iff_iff, beq_iff_eq, decide_eq_true_iff, ← o1]
    omega
  clear o1
  have z1 : ((X.length : Int) == 0) = false := by simp; intro h; subst h; simp at l1
  have z2 : ((Y.length : Int) == 0) = false := by simp; intro h; subst h; simp at l2
  have z3 : ¬ (10 < X.length) := by omega
  go_upto_region 3 with (fail)
  go_cut [66] (fun v66 wc => v66 = .bool false ∧ w2 = wc)
  case first =>
    rcases Int.lt_trichotomy fa fb with h | h | h
    · have := m1 (by omega)
      clear m1 m2 hlaw
      by_cases h64 : fa < 64
      · rw [decide_eq_true h64] at hone
        go_wp2
        go_meet
        case rel => exact ⟨by simp; omega, rfl⟩
      · rw [decide_eq_false h64] at hone
        go_wp2
        go_meet
        case rel => exact ⟨by simp; omega, rfl⟩
    · have := m1 (by omega)
      have := m2 (by omega)
      subst h
      clear m1 m2 hlaw
      by_cases h64 : fa < 64
      · rw [decide_eq_true h64] at hone
        go_wp2
        go_meet
        case rel => exact ⟨by simp; omega, rfl⟩
      · rw [decide_eq_false h64] at hone
        go_wp2
        go_meet
        case rel => exact ⟨by simp; omega, rfl⟩
    · have := m2 (by omega)
      clear m1 m2 hlaw
      by_cases h64 : fa < 64
      · rw [decide_eq_true h64] at hone
        go_wp2
        go_meet
        case rel => exact ⟨by simp; omega, rfl⟩
      · rw [decide_eq_false h64] at hone
        go_wp2
        go_meet
        case rel => exact ⟨by simp; omega, rfl⟩
  case rest =>
    obtain ⟨rfl, rfl⟩ := hcut
    clear hone hlaw z3 m1 m2 fn fm
    obtain ⟨k, hk⟩ : ∃ k, k = min X.length Y.length := ⟨_, rfl⟩
    have hk1 : k ≤ X.length := by omega
    have hk2 : k ≤ Y.length := by omega
    have q1 : (if (Y.length : Int) < (X.length : Int) then (Y.length : Int) else (X.length : Int)) = (k : Int) := by split <;> omega
    have q2 : (if Y.length < X.length then (Y.length : Int) else (X.length : Int)) = (k : Int) := by split <;> omega
    have hs1 := cut_to A1 X.length c1 (k : Int) (by omega) (by omega) hc1
    have hs2 := cut_to A2 Y.length c2 (k : Int) (by omega) (by omega) hc2
    rw [Int.toNat_natCast] at hs1 hs2
    have HK1 := Aside0.mk (Kd.C_take (m := k) HC1.out hk1)
    have HK2 := Aside0.mk (Kd.C_take (m := k) HC2.out hk2)
    rw [show (X.take k).length = k from by rw [List.length_take]; omega] at HK1
    rw [show (Y.take k).length = k from by rw [List.length_take]; omega] at HK2
    rw [← hk] at HT2
    have HS : Aside0 ((((strOfNums (X.take k)).toList == (strOfNums (Y.take k)).toList) == (n == m)) = true) := ⟨by
      rw [same_bytes (bytes8_take HX1.out k) (bytes8_take HX2.out k), beq_iff_eq, Bool.eq_iff_iff, beq_iff_eq, beq_iff_eq]
      exact HT2.out⟩
    clear HC1 HC2 hk
    go_upto_region 6 with (fail)
    have s1 := Kd.C_string (P := Try.prog) (c := c1) Try.underlying28 Try.underlying5 Try.underlying9 (c_drew HK1).out
    have s2 := Kd.C_string (P := Try.prog) (c := c2) Try.underlying28 Try.underlying5 Try.underlying9 (c_drew HK2).out
    clear hk1 hk2 z1 z2 wn wm l1 l2 l3 l4
    have q3 : IntKind.i64.wrap (-1 - n) = -1 - n := WN.out
    go_region_held3 (fun W => (convert 28 9 (.slice A1 k c1)).run Try.prog W = .ok (.string (strOfNums (X.take k))) W ∧ (convert 28 9 (.slice A2 k c2)).run Try.prog W = .ok (.string (strOfNums (Y.take k))) W)
      (first | exact ⟨s1, s2⟩ | exact ⟨s3, s4⟩ | exact ⟨s5, s6⟩)
      (first | (go_at_call 20; refine (sanity_calls _).mono ?_; rintro e w5 ⟨rfl, hb⟩; replace HK1 := Aside0.mk (Kd.C_below (c_drew HK1).out hb.out); replace HK2 := Aside0.mk (Kd.C_below (c_drew HK2).out hb.out); replace HB := (bel_drew HB).trans hb; clear hb; have s3 := Kd.C_string (P := Try.prog) (c := c1) Try.underlying28 Try.underlying5 Try.underlying9 HK1.out; have s4 := Kd.C_string (P := Try.prog) (c := c2) Try.underlying28 Try.underlying5 Try.underlying9 HK2.out) | (go_at_call 22; refine (Int_calls (-1 - n) HNN.out _).mono ?_; rintro e w6 ⟨v3, rfl, HO3, hb⟩; obtain ⟨A3, c3, rfl, -, -⟩ := HO3.reads; clear HO3; rw [HT1.out]; replace HK1 := Kd.C_below HK1.out hb.out; replace HK2 := Kd.C_below HK2.out hb.out;  have s5 := Kd.C_string (P := Try.prog) (c := c1) Try.underlying28 Try.underlying5 Try.underlying9 HK1; have s6 := Kd.C_string (P := Try.prog) (c := c2) Try.underlying28 Try.underlying5 Try.underlying9 HK2; replace HB := HB.trans hb; clear hb HK1 HK2))
    go_wp2
    go_ret
    exact ⟨by rw [HS.out]; rfl, HB⟩
end Go.Proofs.Ytfngbmcedkncjaa
