/- WireConcat (10): the walk. -/
import Derived.Test.YtfngbmcedkncjaaSane
import Derived.Test.YtfngbmcedkncjaaDec
import Derived.Test.YtfngbmcedkncjaaBack
namespace Go.Proofs.Ytfngbmcedkncjaa
open Go.RowKit Go.Proofs.YtfngbmcedkncjaaW.PrintWords Go.Proofs.YtfngbmcedkncjaaW.PrintLast Go.Proofs.YtfngbmcedkncjaaW.PrintMore Plain
set_option linter.unusedVariables false
set_option linter.unusedSimpArgs false
theorem eInts_len {l : List Int} (hl : l.length ≤ 9223372036854775807) (h : ∀ x ∈ l, I64 x) : (eInts l).length ≤ 10 + l.length * 10 := by
  rw [eInts, List.length_append]
  have h1 := eInt_length (i64_len hl)
  have h2 := flatMap_len eInt 10 l (fun x hx => eInt_length (h x hx))
  omega
theorem eBytes_len {s : ByteArray} (hl : s.size ≤ 9223372036854775807) : (eBytes s).length ≤ 10 + s.size := by
  rw [eBytes, List.length_append, bytesOf_length]
  have h1 := eInt_length (i64_len hl)
  omega

set_option maxHeartbeats 2000000 in
set_option maxRecDepth 100000 in
theorem law10 (s : ByteArray) (A : Option Addr) (c : Nat) (l : List Int) (w : World) (hr : Kd.C (Kd.int .i64) w A l.length l) (hc : l.length ≤ c) (hw : ∀ x ∈ l, I64 x) (hs : s.size + l.length ≤ 9223372036854775807) :
    Calls Try.prog 10 #[.string s, .slice A l.length c] w fun e w' => e = .returned (.bool true) ∧ Bel w.heap.size w w' := by
  have HR := Aside0.mk hr
  by_cases hbig : 2000 < s.size + l.length
  · clear hr hc hw
    have h1 : ((s.size : Int) + (l.length : Int) > 2000) := by omega
    go_enter Try.func10, Try.ntmps10
    go_wp2_with (go_at_call 20; refine (sanity_calls _).mono ?_; rintro e w1 ⟨rfl, HB⟩)
    go_ret
    exact ⟨rfl, HB⟩
  · have hls : s.size ≤ 9223372036854775807 := by omega
    have hll : l.length ≤ 9223372036854775807 := by omega
    have C1 := Aside0.mk (dBytes_enc hls (eInts l))
    have C2 := Aside0.mk (dInts_enc hll hw [])
    have L1 := Aside0.mk (eBytes_len hls)
    have L2 := Aside0.mk (eInts_len hll hw)
    have B1 := Aside0.mk (eBytes_bytes hls)
    have B2 := Aside0.mk (eInts_bytes hll hw)
    have HC := Aside0.mk hc
    have HW := Aside0.mk hw
    have HS : Aside0 (s.size + l.length ≤ 2000) := ⟨by omega⟩
    have h1 : ¬ ((s.size : Int) + (l.length : Int) > 2000) := by omega
    clear hr hc hw hls hll
    go_enter Try.func10, Try.ntmps10
    go_wp2_with fail
    refine (Bytes_calls s (by have := HS.out; omega) _).mono ?_
    rintro e w1 ⟨v1, rfl, HO1, HB⟩
    go_wp2_with fail
    refine (Ints_calls A c l _ (Kd.C_below HR.out HB.out) HC.out HW.out (by have := HS.out; omega)).mono ?_
    rintro e w2 ⟨v2, rfl, HO2, hb⟩
    replace HO1 := HO1.bel hb
    replace HB := HB.trans hb
    clear hb
    obtain ⟨A2, c2, rfl, hc2, hC2⟩ := HO2.reads
    have HC2 := Aside0.mk hC2
    clear hC2 hc2 HO2
    go_wp2_with (at_builtin; refine ap_row (Value.int .u8) (0 : Int) (h1 := fun _ => rfl) ty_u8 HO1 HB HC2.out (by have := HS.out; have := L1.out; have := L2.out; omega) rfl rfl rfl rfl ?_; intro v3 w3 HO3 HB3)
    clear HC2 HB HO1
    obtain ⟨A3, c3, rfl, hc3, hC3⟩ := HO3.reads
    clear HO3
    have hcut := cut_from A3 c3 (eBytes s ++ eInts l) ((eBytes s).length : Int) (by omega) (by rw [List.length_append]; omega) hc3
    obtain ⟨A4, hsl, hC4, hc4⟩ := hcut
    have HC4 := Aside0.mk (hC4 w3 hC3)
    rw [Int.toNat_natCast, List.drop_left] at HC4 hc4
    have G1 := Aside0.mk (GetBytes_calls A3 c3 (eBytes s ++ eInts l) w3 hC3 hc3 (bytes8_append B1.out B2.out) hC3.2.1)
    rw [C1.out] at G1
    have hX : (eBytes s ++ eInts l).length = (eBytes s).length + (eInts l).length := List.length_append
    rw [Int.toNat_natCast, show (eBytes s ++ eInts l).length - (eBytes s).length = (eInts l).length from by omega] at hsl
    have h0 := hC3.2.1
    have G2 := Aside0.mk (fun W (h : Kd.C (Kd.int .u8) W A4 (eInts l).length (eInts l)) => GetInts_calls A4 (c3 - (eBytes s).length) (eInts l) W h hc4 B2.out (by have := L2.out; have := HS.out; omega))
    rw [show dInts (eInts l) = (l, ((eInts l).length : Int), 0) from by rw [← C2.out, List.append_nil]] at G2
    clear hC4 hc4 hc3 hC3 L1 L2 B1 B2 C1 C2
    generalize eBytes s ++ eInts l = X at *
    generalize (eBytes s).length = n1 at *
    generalize eInts l = Y at *
    have p0 : n1 + Y.length ≤ 9223372036854775807 := by omega
    have p1 : decide ((n1 : Int) < 0) = false := by simp
    have p2 : decide (X.length < n1) = false := by simp; omega
    have p4 : n1 ≤ X.length := by omega
    have p3 : ((n1 : Int) + (Y.length : Int) == (X.length : Int)) = true := by simp; omega
    clear hX
    refine G1.out.mono ?_
    rintro e w4 ⟨rfl, rfl⟩
    go_wp2_with fail
    refine (G2.out _ HC4.out).mono ?_
    rintro e w5 ⟨v5, rfl, HO5, hb⟩
    replace HB3 := HB3.trans hb
    clear hb HC4
    go_wp2_with fail
    refine (sanity_calls _).mono ?_
    rintro e w6 ⟨rfl, hb⟩
    replace HO5 := HO5.bel hb
    replace HB3 := HB3.trans hb
    clear hb
    obtain ⟨A5, c5, rfl, hc5, hC5⟩ := HO5.reads
    go_wp2_with fail
    refine (SameInts_refl hC5 (Kd.C_below HR.out HB3.out)).mono ?_
    rintro e w7 ⟨rfl, hb⟩
    replace HB3 := HB3.trans hb
    clear hb hC5 HO5
    go_wp2
    go_ret
    exact ⟨rfl, HB3⟩
end Go.Proofs.Ytfngbmcedkncjaa
