/- WireCanonical (7): the walk. -/
import Derived.Test.YtfngbmcedkncjaaSane
import Derived.Test.YtfngbmcedkncjaaDec
import Derived.Test.YtfngbmcedkncjaaCons
namespace Go.Proofs.Ytfngbmcedkncjaa
open Go.RowKit Go.Proofs.YtfngbmcedkncjaaW.PrintWords Go.Proofs.YtfngbmcedkncjaaW.PrintLast Go.Proofs.YtfngbmcedkncjaaW.PrintMore Plain
set_option linter.unusedVariables false
set_option linter.unusedSimpArgs false
/-- consumed, its second argument owned. -/
theorem consumed_own {α : Type} {enc : α → List Int} {A : Option Addr} {c : Nat} {l : List Int} {t : α × Int × Int} {B : Nat} {w : World} {v : Value} (hr : Kd.C (Kd.int .u8) w A l.length l) (hc : l.length ≤ c) (h : Canon enc l t) (HO : Own (Kd.int .u8) 5 B w v (enc t.1)) :
    Calls Try.prog 45 #[.slice A l.length c, v, .int .i64 t.2.1, .int .i64 t.2.2] w fun en w' => en = .returned (.bool true) ∧ Bel w.heap.size w w' := by
  obtain ⟨A', c', rfl, -, hC⟩ := HO.reads
  exact consumed_calls hr hc hC h

set_option maxHeartbeats 2000000 in
set_option maxRecDepth 100000 in
theorem law7 (A : Option Addr) (c : Nat) (l : List Int) (w : World) (hr : Kd.C (Kd.int .u8) w A l.length l) (hc : l.length ≤ c) (hb : Bytes8 l) :
    Calls Try.prog 7 #[.slice A l.length c] w fun e w' => e = .returned (.bool true) ∧ Bel w.heap.size w w' := by
  have HR := Aside0.mk hr
  by_cases hbig : 2000 < l.length
  · clear hr hc hb
    go_enter Try.func7, Try.ntmps7
    go_wp2_with (go_at_call 20; refine (sanity_calls _).mono ?_; rintro e w1 ⟨rfl, HB⟩)
    go_ret
    exact ⟨rfl, HB⟩
  · have hn : (l.length + 1) * 16 ≤ 140737488355328 := by omega
    have hm : l.length ≤ 9223372036854775807 := by omega
    have H1 := Aside0.mk (fun W (h : Kd.C (Kd.int .u8) W A l.length l) => GetInt_calls A c l W h hc hb)
    have H2 := Aside0.mk (fun W (h : Kd.C (Kd.int .u8) W A l.length l) => GetBytes_calls A c l W h hc hb hm)
    have H3 := Aside0.mk (fun W (h : Kd.C (Kd.int .u8) W A l.length l) => GetInts_calls A c l W h hc hb hn)
    have H4 := Aside0.mk (fun W (h : Kd.C (Kd.int .u8) W A l.length l) => GetStrings_calls A c l W h hc hb hn)
    have H5 := Aside0.mk (fun W (h : Kd.C (Kd.int .u8) W A l.length l) => GetDigests_calls A c l W h hc hb hn)
    have C1 := Aside0.mk (And.intro (dInt_range hb).1 (dInt_Canon hb))
    have C2 := Aside0.mk (dBytes_props hb)
    have C3 := Aside0.mk (dInts_props hb)
    have C4 := Aside0.mk (dStrs_props hb)
    have C5 := Aside0.mk (dDigs_props hb)
    have HC := Aside0.mk hc
    clear hr hc hb hn hm
    generalize dInt l = t1 at *
    generalize dBytes l = t2 at *
    generalize dInts l = t3 at *
    generalize dStrs l = t4 at *
    generalize dDigs l = t5 at *
    have HL : Aside0 (l.length ≤ 2000) := ⟨by omega⟩
    go_enter Try.func7, Try.ntmps7
    go_wp2_with (first | (go_at_call 32; refine (H1.out _ HR.out).mono ?_; rintro e w1 ⟨rfl, rfl⟩) | (go_at_call 34; refine (H2.out _ HR.out).mono ?_; rintro e w1 ⟨rfl, rfl⟩) | fail)
    refine (H3.out _ HR.out).mono ?_
    rintro e w1 ⟨v3, rfl, HO3, HB⟩
    go_wp2_with fail
    refine (H4.out _ (Kd.C_below HR.out HB.out)).mono ?_
    rintro e w2 ⟨v4, rfl, HO4, hb⟩
    replace HO3 := HO3.bel hb
    replace HB := HB.trans hb
    clear hb
    go_wp2_with fail
    refine (H5.out _ (Kd.C_below HR.out HB.out)).mono ?_
    rintro e w3 ⟨v5, rfl, HO5, hb⟩
    replace HO3 := HO3.bel hb
    replace HO4 := (HO4.bel hb)
    replace HB := HB.trans hb
    clear hb
    go_wp2_with fail
    refine (sanity_calls _).mono ?_
    rintro e w4 ⟨rfl, hb⟩
    replace HO3 := HO3.bel hb
    replace HO4 := HO4.bel hb
    replace HO5 := HO5.bel hb
    replace HB := HB.trans hb
    clear hb
    go_wp2_with fail
    refine (Int_calls _ C1.out.1 _).mono ?_
    rintro e w5 ⟨v1, rfl, HO1, hb⟩
    replace HO3 := HO3.bel hb
    replace HO4 := HO4.bel hb
    replace HO5 := HO5.bel hb
    replace HB := HB.trans hb
    clear hb
    go_wp2_with fail
    refine (consumed_own (Kd.C_below HR.out HB.out) HC.out C1.out.2 HO1).mono ?_
    rintro e w6 ⟨rfl, hb⟩
    clear HO1
    replace HO3 := HO3.bel hb
    replace HO4 := HO4.bel hb
    replace HO5 := HO5.bel hb
    replace HB := HB.trans hb
    clear hb
    go_wp2_with fail
    refine (Bytes_calls _ (by have := C2.out.1; have := HL.out; omega) _).mono ?_
    rintro e w7 ⟨v1, rfl, HO1, hb⟩
    replace HO3 := HO3.bel hb
    replace HO4 := HO4.bel hb
    replace HO5 := HO5.bel hb
    replace HB := HB.trans hb
    clear hb
    go_wp2_with fail
    refine (consumed_own (Kd.C_below HR.out HB.out) HC.out C2.out.2.1 HO1).mono ?_
    rintro e w8 ⟨rfl, hb⟩
    clear HO1
    replace HO3 := HO3.bel hb
    replace HO4 := HO4.bel hb
    replace HO5 := HO5.bel hb
    replace HB := HB.trans hb
    clear hb
    obtain ⟨A3, c3, rfl, hc3, hC3⟩ := HO3.reads
    have HC3 := Aside0.mk hC3
    have Hc3 := Aside0.mk hc3
    clear hC3 hc3 HO3
    go_wp2_with fail
    refine (Ints_calls A3 c3 t3.1 _ HC3.out Hc3.out C3.out.2.1 (by have := C3.out.1; have := HL.out; omega)).mono ?_
    rintro e w9 ⟨v1, rfl, HO1, hb⟩
    clear HC3 Hc3
    replace HO4 := HO4.bel hb
    replace HO5 := HO5.bel hb
    replace HB := HB.trans hb
    clear hb
    go_wp2_with fail
    refine (consumed_own (Kd.C_below HR.out HB.out) HC.out C3.out.2.2 HO1).mono ?_
    rintro e w10 ⟨rfl, hb⟩
    clear HO1
    replace HO4 := HO4.bel hb
    replace HO5 := HO5.bel hb
    replace HB := HB.trans hb
    clear hb
    obtain ⟨A4, c4, rfl, hc4, hC4⟩ := HO4.reads
    have HC4 := Aside0.mk hC4
    have Hc4 := Aside0.mk hc4
    clear hC4 hc4 HO4
    go_wp2_with fail
    refine (Strings_calls A4 c4 t4.1 _ HC4.out Hc4.out (by have := C4.out.1; have := HL.out; omega) (by have := C4.out.2.1; have := HL.out; omega)).mono ?_
    rintro e w11 ⟨v1, rfl, HO1, hb⟩
    clear HC4 Hc4
    replace HO5 := HO5.bel hb
    replace HB := HB.trans hb
    clear hb
    go_wp2_with fail
    refine (consumed_own (Kd.C_below HR.out HB.out) HC.out C4.out.2.2 HO1).mono ?_
    rintro e w12 ⟨rfl, hb⟩
    clear HO1
    replace HO5 := HO5.bel hb
    replace HB := HB.trans hb
    clear hb
    obtain ⟨A5, c5, rfl, hc5, hC5⟩ := HO5.reads
    have HC5 := Aside0.mk hC5
    have Hc5 := Aside0.mk hc5
    clear hC5 hc5 HO5
    go_wp2_with fail
    refine (Digests_calls A5 c5 t5.1 _ HC5.out Hc5.out (by have := C5.out.1; have := HL.out; omega)).mono ?_
    rintro e w13 ⟨v1, rfl, HO1, hb⟩
    clear HC5 Hc5
    replace HB := HB.trans hb
    clear hb
    go_wp2_with fail
    refine (consumed_own (Kd.C_below HR.out HB.out) HC.out C5.out.2 HO1).mono ?_
    rintro e w14 ⟨rfl, hb⟩
    clear HO1
    replace HB := HB.trans hb
    clear hb
    go_wp2
    go_ret
    exact ⟨rfl, HB⟩
end Go.Proofs.Ytfngbmcedkncjaa
