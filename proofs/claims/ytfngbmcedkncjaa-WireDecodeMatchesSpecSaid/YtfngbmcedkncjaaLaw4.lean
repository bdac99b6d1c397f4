/- WireDecodeMatchesSpec (4): the walk. -/
import Derived.Test.YtfngbmcedkncjaaSane
namespace Go.Proofs.Ytfngbmcedkncjaa
open Go.RowKit Go.Proofs.YtfngbmcedkncjaaW.PrintWords Go.Proofs.YtfngbmcedkncjaaW.PrintLast Go.Proofs.YtfngbmcedkncjaaW.PrintMore Plain
attribute [local go_sem] max2_int min2_int max_two min_two max_three min_three max_four min_four
set_option linter.unusedVariables false
set_option linter.unusedSimpArgs false

set_option maxHeartbeats 1000000 in
set_option maxRecDepth 100000 in
theorem law4 (A : Option Addr) (c : Nat) (l : List Int) (w : World) (hr : Kd.C (Kd.int .u8) w A l.length l) (hc : l.length ≤ c) (hb : Bytes8 l) :
    Calls Try.prog 4 #[.slice A l.length c] w fun e w' => e = .returned (.bool true) ∧ Bel w.heap.size w w' := by
  have HR := Aside0.mk hr
  have HC := Aside0.mk hc
  have HB8 := Aside0.mk hb
  clear hr hc hb
  by_cases hbig : 2000 < l.length
  · go_enter Try.func4, Try.ntmps4
    go_wp2_with (go_at_call 20; refine (sanity_calls _).mono ?_; rintro e w1 ⟨rfl, HB⟩)
    go_ret
    exact ⟨rfl, HB⟩
  · have H1 := Aside0.mk (fun W hC => GetInt_calls A c l W hC HC.out HB8.out)
    have H2 := Aside0.mk (fun W hC => refGetInt_calls A c l W hC HC.out HB8.out)
    have H3 := Aside0.mk (fun W hC => GetBytes_calls A c l W hC HC.out HB8.out (by omega))
    have H4 := Aside0.mk (fun W hC => refGetBytes_calls A c l W hC HC.out HB8.out (by omega))
    have H5 := Aside0.mk (fun W hC => GetInts_calls A c l W hC HC.out HB8.out (by omega))
    have H6 := Aside0.mk (fun W hC => refGetInts_calls A c l W hC HC.out HB8.out (by omega))
    have H7 := Aside0.mk (fun W hC => GetStrings_calls A c l W hC HC.out HB8.out (by omega))
    have H8 := Aside0.mk (fun W hC => refGetStrings_calls A c l W hC HC.out HB8.out (by omega))
    have H9 := Aside0.mk (fun W hC => GetDigests_calls A c l W hC HC.out HB8.out (by omega))
    have H10 := Aside0.mk (fun W hC => refGetDigests_calls A c l W hC HC.out HB8.out (by omega))
    generalize dInt l = t1 at *
    generalize dBytes l = t2 at *
    generalize dInts l = t3 at *
    generalize dStrs l = t4 at *
    generalize dDigs l = t5 at *
    go_enter Try.func4, Try.ntmps4
    go_wp2_with (first | (go_at_call 32; refine (H1.out _ HR.out).mono ?_; rintro e w1 ⟨rfl, rfl⟩) | (go_at_call 33; refine (H2.out _ HR.out).mono ?_; rintro e w1 ⟨rfl, rfl⟩) | (go_at_call 34; refine (H3.out _ HR.out).mono ?_; rintro e w1 ⟨rfl, rfl⟩) | (go_at_call 35; refine (H4.out _ HR.out).mono ?_; rintro e w1 ⟨rfl, rfl⟩))
    refine (H5.out _ HR.out).mono ?_
    rintro e w1 ⟨v1, rfl, HO1, HB1⟩
    go_wp2_with fail
    refine (H6.out _ (Kd.C_below HR.out HB1.out)).mono ?_
    rintro e w2 ⟨v2, rfl, HO2, HB2⟩
    obtain ⟨A1, c1, rfl, -, hC1⟩ := (HO1.bel HB2).reads
    obtain ⟨A2, c2, rfl, -, hC2⟩ := HO2.reads
    replace HB1 := HB1.trans HB2
    clear HO1 HO2 HB2
    go_wp2_with fail
    refine (SameInts_refl hC1 hC2).mono ?_
    rintro e w3 ⟨rfl, HB2⟩
    replace HB1 := HB1.trans HB2
    clear hC1 hC2 HB2
    go_wp2_with fail
    refine (H7.out _ (Kd.C_below HR.out HB1.out)).mono ?_
    rintro e w4 ⟨v1, rfl, HO1, HB2⟩
    replace HB1 := HB1.trans HB2
    clear HB2
    go_wp2_with fail
    refine (H8.out _ (Kd.C_below HR.out HB1.out)).mono ?_
    rintro e w5 ⟨v2, rfl, HO2, HB2⟩
    obtain ⟨A3, c3, rfl, -, hC1⟩ := (HO1.bel HB2).reads
    obtain ⟨A4, c4, rfl, -, hC2⟩ := HO2.reads
    replace HB1 := HB1.trans HB2
    clear HO1 HO2 HB2
    go_wp2_with fail
    refine (SameTexts_refl hC1 hC2).mono ?_
    rintro e w6 ⟨rfl, HB2⟩
    replace HB1 := HB1.trans HB2
    clear hC1 hC2 HB2
    go_wp2_with fail
    refine (H9.out _ (Kd.C_below HR.out HB1.out)).mono ?_
    rintro e w7 ⟨v1, rfl, HO1, HB2⟩
    replace HB1 := HB1.trans HB2
    clear HB2
    go_wp2_with fail
    refine (H10.out _ (Kd.C_below HR.out HB1.out)).mono ?_
    rintro e w8 ⟨v2, rfl, HO2, HB2⟩
    obtain ⟨A5, c5, rfl, -, hC1⟩ := (HO1.bel HB2).reads
    obtain ⟨A6, c6, rfl, -, hC2⟩ := HO2.reads
    replace HB1 := HB1.trans HB2
    clear HO1 HO2 HB2
    have HC1 := Aside0.mk hC1
    have HC2 := Aside0.mk hC2
    clear hC1 hC2
    go_wp2_with fail
    refine (sanity_calls _).mono ?_
    rintro e w9 ⟨rfl, HB2⟩
    go_wp2_with fail
    refine (SameDigests_refl (Kd.C_below HC1.out HB2.out) (Kd.C_below HC2.out HB2.out)).mono ?_
    rintro e w10 ⟨rfl, HB3⟩
    replace HB1 := (HB1.trans HB2).trans HB3
    go_wp2
    go_ret
    exact ⟨rfl, HB1⟩
end Go.Proofs.Ytfngbmcedkncjaa
