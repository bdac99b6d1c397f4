/- WireEncodeMatchesSpec (3): the walk. -/
import Derived.Test.YtfngbmcedkncjaaSane
import Derived.Test.YtfngbmcedkncjaaFew
import Derived.Test.YtfngbmcedkncjaaEnc
namespace Go.Proofs.Ytfngbmcedkncjaa
open Go.RowKit Go.Proofs.YtfngbmcedkncjaaW.PrintWords Go.Proofs.YtfngbmcedkncjaaW.PrintLast Go.Proofs.YtfngbmcedkncjaaW.PrintMore Plain
set_option linter.unusedVariables false
set_option linter.unusedSimpArgs false
theorem flat_strs : ∀ {l : List ByteArray}, strBytes l ≤ 9223372036854775807 → (l.flatMap eBytes).length ≤ 10 * l.length + strBytes l
  | [], _ => by simp [strBytes]
  | x :: l, h => by
    have e : strBytes (x :: l) = x.size + strBytes l := by simp [strBytes]
    rw [e] at h ⊢
    have ih := flat_strs (l := l) (by omega)
    have h1 := eInt_length (n := (x.size : Int)) (by unfold I64; omega)
    rw [List.flatMap_cons, List.length_append, eBytes, List.length_append, bytesOf_length, List.length_cons]
    omega
/-- Same, both arguments owned. -/
theorem Same_own {l : List Int} {B B' : Nat} {w w' : World} {v v' : Value} (h : Own (Kd.int .u8) 5 B w v l) (hb : Bel w.heap.size w w') (h' : Own (Kd.int .u8) 5 B' w' v' l) :
    Calls Try.prog 21 #[v, v'] w' fun e w2 => e = .returned (.bool true) ∧ Bel w'.heap.size w' w2 := by
  obtain ⟨A, c, rfl, -, hC⟩ := (h.bel hb).reads
  obtain ⟨A', c', rfl, -, hC'⟩ := h'.reads
  exact Same_refl hC hC'

set_option maxHeartbeats 2000000 in
set_option maxRecDepth 100000 in
theorem law3 (n : Int) (hn : I64 n) (s : ByteArray) (A1 : Option Addr) (c1 : Nat) (l1 : List Int) (A2 : Option Addr) (c2 : Nat) (l2 : List ByteArray) (A3 : Option Addr) (c3 : Nat) (l3 : List (List Int)) (w : World)
    (hr1 : Kd.C (Kd.int .i64) w A1 l1.length l1) (hc1 : l1.length ≤ c1) (hw1 : ∀ x ∈ l1, I64 x) (hr2 : Kd.C Kd.string w A2 l2.length l2) (hc2 : l2.length ≤ c2) (hr3 : Kd.C dgK w A3 l3.length l3) (hc3 : l3.length ≤ c3)
    (hs1 : s.size + l1.length + l3.length ≤ 9223372036854775807) (hs2 : l2.length + strBytes l2 ≤ 9223372036854775807) :
    Calls Try.prog 3 #[.int .i64 n, .string s, .slice A1 l1.length c1, .slice A2 l2.length c2, .slice A3 l3.length c3] w fun e w' => e = .returned (.bool true) ∧ Bel w.heap.size w w' := by
  have HN := Aside0.mk hn
  have HR1 := Aside0.mk hr1
  have HR2 := Aside0.mk hr2
  have HR3 := Aside0.mk hr3
  have HC1 := Aside0.mk hc1
  have HC2 := Aside0.mk hc2
  have HC3 := Aside0.mk hc3
  have HW1 := Aside0.mk hw1
  have HF := Aside0.mk (few_calls A2 c2 l2 w hr2 hs2)
  clear hn hr1 hr2 hr3 hc1 hc2 hc3 hw1
  by_cases hbig : 2000 < s.size + l1.length + l3.length
  · have h1 : ((s.size : Int) + (l1.length : Int) + (l3.length : Int) > 2000) := by omega
    go_enter Try.func3, Try.ntmps3
    go_wp2_with (go_at_call 20; refine (sanity_calls _).mono ?_; rintro e w1 ⟨rfl, HB⟩)
    go_ret
    exact ⟨rfl, HB⟩
  · have h1 : ¬ ((s.size : Int) + (l1.length : Int) + (l3.length : Int) > 2000) := by omega
    by_cases hfew : 2000 < l2.length + strBytes l2
    · rw [decide_eq_false (by omega)] at HF
      clear hfew hs2
      go_enter Try.func3, Try.ntmps3
      go_wp2_with (first | (go_at_call 19; refine HF.out.mono ?_; rintro e w1 ⟨rfl, rfl⟩) | (go_at_call 20; refine (sanity_calls _).mono ?_; rintro e w1 ⟨rfl, HB⟩))
      go_ret
      exact ⟨rfl, HB⟩
    · rw [decide_eq_true (by omega)] at HF
      have L2 := Aside0.mk (flat_strs (l := l2) (by omega))
      have S1 : Aside0 (s.size + l1.length + l3.length ≤ 2000) := ⟨by omega⟩
      have S2 : Aside0 (l2.length + strBytes l2 ≤ 2000) := ⟨by omega⟩
      clear hfew hs2
      go_enter Try.func3, Try.ntmps3
      go_wp2_with (first | (go_at_call 19; refine HF.out.mono ?_; rintro e w1 ⟨rfl, rfl⟩) | fail)
      refine (sanity_calls _).mono ?_
      rintro e w1 ⟨rfl, HB⟩
      go_wp2_with fail
      refine (Int_calls _ HN.out _).mono ?_
      rintro e w2 ⟨v1, rfl, HO1, hb⟩
      replace HB := HB.trans hb
      clear hb
      go_wp2_with fail
      refine (refInt_calls _ HN.out _).mono ?_
      rintro e w3 ⟨v2, rfl, HO2, hb⟩
      replace HB := HB.trans hb
      go_wp2_with fail
      refine (Same_own HO1 hb HO2).mono ?_
      clear HO1 HO2 hb
      rintro e w4 ⟨rfl, hb⟩
      replace HB := HB.trans hb
      clear hb
      go_wp2_with fail
      refine (Bytes_calls s (by have := S1.out; omega) _).mono ?_
      rintro e w5 ⟨v1, rfl, HO1, hb⟩
      replace HB := HB.trans hb
      clear hb
      go_wp2_with fail
      refine (refBytes_calls s (by have := S1.out; omega) _).mono ?_
      rintro e w6 ⟨v2, rfl, HO2, hb⟩
      replace HB := HB.trans hb
      go_wp2_with fail
      refine (Same_own HO1 hb HO2).mono ?_
      clear HO1 HO2 hb
      rintro e w7 ⟨rfl, hb⟩
      replace HB := HB.trans hb
      clear hb
      go_wp2_with fail
      refine (Ints_calls A1 c1 l1 _ (Kd.C_below HR1.out HB.out) HC1.out HW1.out (by have := S1.out; omega)).mono ?_
      rintro e w8 ⟨v1, rfl, HO1, hb⟩
      replace HB := HB.trans hb
      clear hb
      go_wp2_with fail
      refine (refInts_calls A1 c1 l1 _ (Kd.C_below HR1.out HB.out) HC1.out HW1.out (by have := S1.out; omega)).mono ?_
      rintro e w9 ⟨v2, rfl, HO2, hb⟩
      replace HB := HB.trans hb
      go_wp2_with fail
      refine (Same_own HO1 hb HO2).mono ?_
      clear HO1 HO2 hb
      rintro e w10 ⟨rfl, hb⟩
      replace HB := HB.trans hb
      clear hb
      go_wp2_with fail
      refine (Strings_calls A2 c2 l2 _ (Kd.C_below HR2.out HB.out) HC2.out (by have := S2.out; omega) (by have := S2.out; have := L2.out; omega)).mono ?_
      rintro e w11 ⟨v1, rfl, HO1, hb⟩
      replace HB := HB.trans hb
      clear hb
      go_wp2_with fail
      refine (refStrings_calls A2 c2 l2 _ (Kd.C_below HR2.out HB.out) HC2.out (by have := S2.out; omega) (by have := S2.out; have := L2.out; omega)).mono ?_
      rintro e w12 ⟨v2, rfl, HO2, hb⟩
      replace HB := HB.trans hb
      go_wp2_with fail
      refine (Same_own HO1 hb HO2).mono ?_
      clear HO1 HO2 hb
      rintro e w13 ⟨rfl, hb⟩
      replace HB := HB.trans hb
      clear hb
      go_wp2_with fail
      refine (Digests_calls A3 c3 l3 _ (Kd.C_below HR3.out HB.out) HC3.out (by have := S1.out; omega)).mono ?_
      rintro e w14 ⟨v1, rfl, HO1, hb⟩
      replace HB := HB.trans hb
      clear hb
      go_wp2_with fail
      refine (refDigests_calls A3 c3 l3 _ (Kd.C_below HR3.out HB.out) HC3.out (by have := S1.out; omega)).mono ?_
      rintro e w15 ⟨v2, rfl, HO2, hb⟩
      replace HB := HB.trans hb
      go_wp2_with fail
      refine (Same_own HO1 hb HO2).mono ?_
      clear HO1 HO2 hb
      rintro e w16 ⟨rfl, hb⟩
      replace HB := HB.trans hb
      clear hb
      go_wp2
      go_ret
      exact ⟨rfl, HB⟩
end Go.Proofs.Ytfngbmcedkncjaa
