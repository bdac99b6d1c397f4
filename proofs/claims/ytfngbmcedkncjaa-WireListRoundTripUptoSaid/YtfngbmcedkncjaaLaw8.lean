/- WireListRoundTrip (8): the walk. -/
import Derived.Test.YtfngbmcedkncjaaSane
import Derived.Test.YtfngbmcedkncjaaFew
import Derived.Test.YtfngbmcedkncjaaEnc
import Derived.Test.YtfngbmcedkncjaaDec
import Derived.Test.YtfngbmcedkncjaaFull
import Derived.Test.YtfngbmcedkncjaaBack
import Derived.Test.YtfngbmcedkncjaaLaw3
import Derived.Test.YtfngbmcedkncjaaLaw10
namespace Go.Proofs.Ytfngbmcedkncjaa
open Go.RowKit Go.Proofs.YtfngbmcedkncjaaW.PrintWords Go.Proofs.YtfngbmcedkncjaaW.PrintLast Go.Proofs.YtfngbmcedkncjaaW.PrintMore Plain
set_option linter.unusedVariables false
set_option linter.unusedSimpArgs false
theorem Own.some1 {e B : Nat} {w : World} {v : Value} {xs : List Int} (h : Own (Kd.int .u8) e B w v xs) (hp : 0 < xs.length) : ∃ ad c, v = .slice (some ad) xs.length c ∧ xs.length ≤ c ∧ Aside0 (Kd.C (Kd.int .u8) w (some ad) xs.length xs) := by
  obtain ⟨A, c, rfl, hc, hC⟩ := h.reads
  obtain ⟨ad, rfl, _⟩ := Kd.at_int hC 0 (by omega) (by omega)
  exact ⟨ad, c, rfl, hc, ⟨hC⟩⟩
theorem GetBytes_back {s : ByteArray} (hs : s.size ≤ 9223372036854775807) {t : List Int} (ht : Bytes8 t) {W : World} {v : Value} (h : Reads8 W v (eBytes s ++ t)) :
    Calls Try.prog 34 #[v] W fun e w' => e = .returned (.tuple #[.string s, .int .i64 ((eBytes s).length : Int), .int .i64 0]) ∧ W = w' := by
  obtain ⟨A, c, rfl, hc, hC⟩ := h
  have := GetBytes_calls A c _ W hC hc (bytes8_append (eBytes_bytes hs) ht) hC.2.1
  rw [dBytes_enc hs t] at this
  exact this
theorem GetInts_back {l : List Int} (hl : l.length ≤ 9223372036854775807) (hw : ∀ x ∈ l, I64 x) {t : List Int} (ht : Bytes8 t) (hn : ((eInts l ++ t).length + 1) * 16 ≤ 140737488355328) {W : World} {v : Value} (h : Reads8 W v (eInts l ++ t)) :
    Calls Try.prog 36 #[v] W fun e w' => Gave (Kd.int .i64) 3 W.heap.size W w' (l, ((eInts l).length : Int), 0) e := by
  obtain ⟨A, c, rfl, hc, hC⟩ := h
  have := GetInts_calls A c _ W hC hc (bytes8_append (eInts_bytes hl hw) ht) hn
  rw [dInts_enc hl hw t] at this
  exact this
theorem GetStrings_back {l : List ByteArray} (hl : l.length ≤ 9223372036854775807) (hw : ∀ x ∈ l, x.size ≤ 9223372036854775807) {t : List Int} (ht : Bytes8 t) (hn : ((eStrs l ++ t).length + 1) * 16 ≤ 140737488355328) {W : World} {v : Value} (h : Reads8 W v (eStrs l ++ t)) :
    Calls Try.prog 39 #[v] W fun e w' => Gave Kd.string 9 W.heap.size W w' (l, ((eStrs l).length : Int), 0) e := by
  obtain ⟨A, c, rfl, hc, hC⟩ := h
  have := GetStrings_calls A c _ W hC hc (bytes8_append (eStrs_bytes hl hw) ht) hn
  rw [dStrs_enc hl hw t] at this
  exact this
theorem GetDigests_back {l : List (List Int)} (hl : l.length ≤ 9223372036854775807) (h16 : ∀ x ∈ l, x.length = 16) (hw : ∀ x ∈ l, Bytes8 x) {t : List Int} (ht : Bytes8 t) (hn : ((eDigs l ++ t).length + 1) * 16 ≤ 140737488355328) {W : World} {v : Value} (h : Reads8 W v (eDigs l ++ t)) :
    Calls Try.prog 42 #[v] W fun e w' => Gave dgK 77 W.heap.size W w' (l, ((eDigs l).length : Int), 0) e := by
  obtain ⟨A, c, rfl, hc, hC⟩ := h
  have := GetDigests_calls A c _ W hC hc (bytes8_append (eDigs_bytes hl hw) ht) hn
  rw [dDigs_enc hl h16 t] at this
  exact this
theorem eStrs_len {l : List ByteArray} (h : l.length + strBytes l ≤ 9223372036854775807) : (eStrs l).length ≤ 10 + (10 * l.length + strBytes l) := by
  rw [eStrs, List.length_append]
  have h1 := eInt_length (i64_len (n := l.length) (by omega))
  have h2 := flat_strs (l := l) (by omega)
  omega
theorem eDigs_len {l : List (List Int)} (hl : l.length ≤ 9223372036854775807) (h : ∀ x ∈ l, x.length = 16) : (eDigs l).length ≤ 10 + l.length * 16 := by
  rw [eDigs, List.length_append]
  have h1 := eInt_length (i64_len hl)
  have h2 := flat_len l h l.length
  rw [List.take_length] at h2
  omega
theorem eInts_pos (l : List Int) : 0 < (eInts l).length := by rw [eInts, List.length_append]; have := eInt_pos (l.length : Int); omega
theorem eStrs_pos (l : List ByteArray) : 0 < (eStrs l).length := by rw [eStrs, List.length_append]; have := eInt_pos (l.length : Int); omega
theorem eDigs_pos (l : List (List Int)) : 0 < (eDigs l).length := by rw [eDigs, List.length_append]; have := eInt_pos (l.length : Int); omega

set_option maxHeartbeats 4000000 in
set_option maxRecDepth 100000 in
theorem law8 (s : ByteArray) (A1 : Option Addr) (c1 : Nat) (l1 : List Int) (A2 : Option Addr) (c2 : Nat) (l2 : List ByteArray) (A3 : Option Addr) (c3 : Nat) (l3 : List (List Int)) (A4 : Option Addr) (c4 : Nat) (l4 : List Int) (w : World)
    (hr1 : Kd.C (Kd.int .i64) w A1 l1.length l1) (hc1 : l1.length ≤ c1) (hw1 : ∀ x ∈ l1, I64 x) (hr2 : Kd.C Kd.string w A2 l2.length l2) (hc2 : l2.length ≤ c2) (hw2 : ∀ x ∈ l2, x.size ≤ 9223372036854775807)
    (hr3 : Kd.C dgK w A3 l3.length l3) (hc3 : l3.length ≤ c3) (hw3 : ∀ x ∈ l3, Bytes8 x) (hr4 : Kd.C (Kd.int .u8) w A4 l4.length l4) (hw4 : Bytes8 l4)
    (hs1 : s.size + l1.length + l3.length + l4.length ≤ 9223372036854775807) (hs2 : l2.length + strBytes l2 ≤ 9223372036854775807) :
    Calls Try.prog 8 #[.string s, .slice A1 l1.length c1, .slice A2 l2.length c2, .slice A3 l3.length c3, .slice A4 l4.length c4] w fun e w' => e = .returned (.bool true) ∧ Bel w.heap.size w w' := by
  have HR1 := Aside0.mk hr1
  have HR2 := Aside0.mk hr2
  have HR3 := Aside0.mk hr3
  have HR4 := Aside0.mk hr4
  have HC1 := Aside0.mk hc1
  have HC2 := Aside0.mk hc2
  have HC3 := Aside0.mk hc3
  have HW1 := Aside0.mk hw1
  have HW2 := Aside0.mk hw2
  have HW3 := Aside0.mk hw3
  have HW4 := Aside0.mk hw4
  have HD3 := Aside0.mk (C_all hr3)
  have HF := Aside0.mk (few_calls A2 c2 l2 w hr2 hs2)
  clear hr1 hr2 hr3 hr4 hc1 hc2 hc3 hw1 hw2 hw3 hw4
  by_cases hbig : 2000 < s.size + l1.length + l3.length + l4.length
  · have h1 : ((s.size : Int) + (l1.length : Int) + (l3.length : Int) + (l4.length : Int) > 2000) := by omega
    go_enter Try.func8, Try.ntmps8
    go_wp2_with (go_at_call 20; refine (sanity_calls _).mono ?_; rintro e w1 ⟨rfl, HB⟩)
    go_ret
    exact ⟨rfl, HB⟩
  · have h1 : ¬ ((s.size : Int) + (l1.length : Int) + (l3.length : Int) + (l4.length : Int) > 2000) := by omega
    by_cases hfew : 2000 < l2.length + strBytes l2
    · rw [decide_eq_false (by omega)] at HF
      clear hfew hs2
      go_enter Try.func8, Try.ntmps8
      go_wp2_with (first | (go_at_call 19; refine HF.out.mono ?_; rintro e w1 ⟨rfl, rfl⟩) | (go_at_call 20; refine (sanity_calls _).mono ?_; rintro e w1 ⟨rfl, HB⟩))
      go_ret
      exact ⟨rfl, HB⟩
    · rw [decide_eq_true (by omega)] at HF
      have L2 := Aside0.mk (flat_strs (l := l2) (by omega))
      have S1 : Aside0 (s.size + l1.length + l3.length + l4.length ≤ 2000) := ⟨by omega⟩
      have S2 : Aside0 (l2.length + strBytes l2 ≤ 2000) := ⟨by omega⟩
      have B1 := Aside0.mk (eBytes_len (s := s) (by omega))
      have B2 := Aside0.mk (eInts_len (l := l1) (by omega) HW1.out)
      have B3 := Aside0.mk (eDigs_len (l := l3) (by omega) HD3.out)
      have B4 := Aside0.mk (eStrs_len hs2)
      clear hfew hs2
      go_enter Try.func8, Try.ntmps8
      go_wp2_with (first | (go_at_call 19; refine HF.out.mono ?_; rintro e w1 ⟨rfl, rfl⟩) | fail)
      refine (Bytes_calls s (by have := S1.out; omega) _).mono ?_
      rintro e w1 ⟨v1, rfl, HO1, HB⟩
      go_wp2_with fail
      refine (Ints_calls A1 c1 l1 _ (Kd.C_below HR1.out HB.out) HC1.out HW1.out (by have := S1.out; omega)).mono ?_
      rintro e w2 ⟨v2, rfl, HO2, hb⟩
      replace HB := HB.trans hb
      replace HO1 := HO1.bel hb
      clear hb
      go_wp2_with fail
      refine (Digests_calls A3 c3 l3 _ (Kd.C_below HR3.out HB.out) HC3.out (by have := S1.out; omega)).mono ?_
      rintro e w3 ⟨v3, rfl, HO3, hb⟩
      replace HB := HB.trans hb
      replace HO1 := HO1.bel hb
      replace HO2 := HO2.bel hb
      clear hb
      go_wp2_with fail
      refine (Strings_calls A2 c2 l2 _ (Kd.C_below HR2.out HB.out) HC2.out (by have := S2.out; omega) (by have := S2.out; have := L2.out; omega)).mono ?_
      rintro e w4 ⟨v4, rfl, HO4, hb⟩
      replace HB := HB.trans hb
      replace HO1 := HO1.bel hb
      replace HO2 := HO2.bel hb
      replace HO3 := HO3.bel hb
      clear hb
      obtain ⟨ad1, k1, rfl, hk1, HX1⟩ := HO1.some1 (eBytes_pos s)
      obtain ⟨ad2, k2, rfl, hk2, HX2⟩ := HO2.some1 (eInts_pos l1)
      obtain ⟨ad3, k3, rfl, hk3, HX3⟩ := HO3.some1 (eDigs_pos l3)
      obtain ⟨ad4, k4, rfl, hk4, HX4⟩ := HO4.some1 (eStrs_pos l2)
      clear HO1 HO2 HO3 HO4
      have f1 := cut_full (some ad1) (eBytes s).length k1 hk1 HX1.out.2.1
      have f2 := cut_full (some ad2) (eInts l1).length k2 hk2 HX2.out.2.1
      have f3 := cut_full (some ad3) (eDigs l3).length k3 hk3 HX3.out.2.1
      have f4 := cut_full (some ad4) (eStrs l2).length k4 hk4 HX4.out.2.1
      have HB0 := Bel.refl w4
      clear hk1 hk2 hk3 hk4
      go_wp2_with (at_builtin; refine ap_full HX1.out (Kd.C_below HR4.out HB.out) (by have := B1.out; have := S1.out; omega) rfl rfl rfl rfl ?_; intro v5 w5 HRd hb)
      refine (GetBytes_back (by have := S1.out; omega) HW4.out HRd).mono ?_
      rintro e w6 ⟨rfl, rfl⟩
      replace HB := HB.trans hb
      replace HB0 := HB0.trans hb
      clear hb HRd
      go_wp2_with (at_builtin; refine ap_full (Kd.C_below HX2.out HB0.out) (Kd.C_below HR4.out HB.out) (by have := B2.out; have := S1.out; omega) rfl rfl rfl rfl ?_; intro v6 w6 HRd hb)
      refine (GetInts_back (by have := S1.out; omega) HW1.out HW4.out (by have := B2.out; have := S1.out; rw [List.length_append]; omega) HRd).mono ?_
      rintro e w7 ⟨v7, rfl, HO5, hb2⟩
      replace HB := (HB.trans hb).trans hb2
      replace HB0 := (HB0.trans hb).trans hb2
      clear hb HRd hb2
      go_wp2_with (at_builtin; refine ap_full (Kd.C_below HX3.out HB0.out) (Kd.C_below HR4.out HB.out) (by have := B3.out; have := S1.out; omega) rfl rfl rfl rfl ?_; intro v8 w8 HRd hb)
      refine (GetDigests_back (by have := S1.out; omega) HD3.out HW3.out HW4.out (by have := B3.out; have := S1.out; rw [List.length_append]; omega) HRd).mono ?_
      rintro e w9 ⟨v9, rfl, HO6, hb2⟩
      replace HO5 := (HO5.bel hb).bel hb2
      replace HB := (HB.trans hb).trans hb2
      replace HB0 := (HB0.trans hb).trans hb2
      clear hb HRd hb2
      go_wp2_with (at_builtin; refine ap_full (Kd.C_below HX4.out HB0.out) (Kd.C_below HR4.out HB.out) (by have := B4.out; have := S1.out; have := S2.out; omega) rfl rfl rfl rfl ?_; intro v10 w10 HRd hb)
      refine (GetStrings_back (by have := S2.out; omega) HW2.out HW4.out (by have := B4.out; have := S1.out; have := S2.out; rw [List.length_append]; omega) HRd).mono ?_
      rintro e w11 ⟨v11, rfl, HO7, hb2⟩
      replace HO5 := (HO5.bel hb).bel hb2
      replace HO6 := (HO6.bel hb).bel hb2
      replace HB := (HB.trans hb).trans hb2
      clear hb HRd hb2 HB0 HX1 HX2 HX3 HX4 f1 f2 f3 f4
      go_wp2_with fail
      refine (sanity_calls _).mono ?_
      rintro e w12 ⟨rfl, hb⟩
      replace HO5 := HO5.bel hb
      replace HO6 := HO6.bel hb
      replace HO7 := HO7.bel hb
      replace HB := HB.trans hb
      clear hb
      obtain ⟨A5, c5, rfl, -, hC7⟩ := HO7.reads
      clear HO7
      go_wp2_with fail
      refine (SameTexts_refl hC7 (Kd.C_below HR2.out HB.out)).mono ?_
      clear hC7
      rintro e w13 ⟨rfl, hb⟩
      replace HO5 := HO5.bel hb
      replace HO6 := HO6.bel hb
      replace HB := HB.trans hb
      clear hb
      obtain ⟨A6, c6, rfl, -, hC5⟩ := HO5.reads
      clear HO5
      go_wp2_with fail
      refine (SameInts_refl hC5 (Kd.C_below HR1.out HB.out)).mono ?_
      clear hC5
      rintro e w14 ⟨rfl, hb⟩
      replace HO6 := HO6.bel hb
      replace HB := HB.trans hb
      clear hb
      obtain ⟨A7, c7, rfl, -, hC6⟩ := HO6.reads
      clear HO6
      go_wp2_with fail
      refine (SameDigests_refl hC6 (Kd.C_below HR3.out HB.out)).mono ?_
      clear hC6
      rintro e w15 ⟨rfl, hb⟩
      replace HB := HB.trans hb
      clear hb
      go_wp2
      go_ret
      exact ⟨rfl, HB⟩
end Go.Proofs.Ytfngbmcedkncjaa
