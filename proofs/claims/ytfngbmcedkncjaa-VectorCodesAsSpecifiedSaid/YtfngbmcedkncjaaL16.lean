/- VectorCodesAsSpecified (16): walked. -/
import Derived.Test.YtfngbmcedkncjaaVSane
import Derived.Test.YtfngbmcedkncjaaCanon
namespace Go.Proofs.Ytfngbmcedkncjaa
open Go.RowKit Go.Proofs.YtfngbmcedkncjaaW.PrintWords Go.Proofs.YtfngbmcedkncjaaW.PrintLast Go.Proofs.YtfngbmcedkncjaaW.PrintMore Plain
set_option linter.unusedVariables false
set_option linter.unusedSimpArgs false
theorem Bel.mk' {B : Nat} {w w' : World} (h : Below B w w') : Bel B w w' := ⟨h⟩
theorem same_true (x : List Int) : decide (x = x) = true := by simp
theorem eInts_len {l : List Int} (h : ∀ x ∈ l, I64 x) (hl : l.length ≤ 40) : (eInts l).length ≤ 410 := by
  have h1 := flatMap_len eInt 10 l (fun x hx => eInt_length (h x hx))
  have h2 := eInt_length (n := (l.length : Int)) (by unfold I64; omega)
  unfold eInts
  rw [List.length_append]
  omega
set_option maxHeartbeats 4000000 in
set_option maxRecDepth 100000 in
theorem law16 (A0 A1 : Option Addr) (c0 c1 : Nat) (l b : List Int) (w : World) (h0 : Kd.C (Kd.int .i64) w A0 l.length l) (h1 : Kd.C (Kd.int .u8) w A1 b.length b) (hc0 : l.length ≤ c0) (hc1 : b.length ≤ c1) (hw : ∀ x ∈ l, I64 x) (h8 : Bytes8 b) :
    Calls Try.prog 16 #[.slice A0 l.length c0, .slice A1 b.length c1] w fun e w' => e = .returned (.bool true) ∧ Bel w.heap.size w w' := by
  have HA := Aside0.mk h0
  have HL := Aside0.mk h1
  have HB := Bel.refl w
  have HC0 := Aside0.mk hc0
  have HC1 := Aside0.mk hc1
  have HW := Aside0.mk hw
  have H8 := Aside0.mk h8
  have m0 := h0.2.1
  have m1 := h1.2.1
  clear h0 h1 hc0 hc1 hw h8
  by_cases l0 : l.length ≤ 40
  · by_cases l1 : b.length ≤ 400
    · generalize hd : vDec b = T
      have HD := Aside0.mk hd
      clear hd
      obtain ⟨X, er⟩ := T
      go_enter Try.func16, Try.ntmps16
      go_wp2_with fail
      refine (Decode_calls _ _ b _ HL.out HC1.out H8.out (by omega)).mono ?_
      rintro e w1 ⟨v1, rfl, HO1, hb⟩
      rw [HD.out] at HO1 ⊢
      obtain ⟨A2, c2, rfl, -, hC⟩ := HO1.reads
      clear HO1
      replace HA := Aside0.mk (Kd.C_below HA.out hb.out)
      replace HL := Aside0.mk (Kd.C_below HL.out hb.out)
      replace HB := HB.trans hb
      clear hb
      have X1 := Aside0.mk hC
      clear hC
      go_wp2_with fail
      refine (refDecode_calls _ _ b _ HL.out HC1.out H8.out (by omega)).mono ?_
      rintro e w2 ⟨v2, rfl, HO2, hb⟩
      rw [HD.out] at HO2 ⊢
      obtain ⟨A3, c3, rfl, -, hC⟩ := HO2.reads
      clear HO2
      replace HA := Aside0.mk (Kd.C_below HA.out hb.out)
      replace HL := Aside0.mk (Kd.C_below HL.out hb.out)
      replace X1 := Aside0.mk (Kd.C_below X1.out hb.out)
      replace HB := HB.trans hb
      clear hb
      have X2 := Aside0.mk hC
      clear hC
      go_upto_region 5 with (fail)
      have F0 := Aside0.mk (box_facts (Bel.refl (w2.alloc (.cells #[.slice A3 X.length c3, .int .i64 er] 72))) (j := 0) rfl).1
      have F1 := Aside0.mk (box_facts (Bel.refl (w2.alloc (.cells #[.slice A3 X.length c3, .int .i64 er] 72))) (j := 1) rfl).1
      replace F0 : Aside0 ((w2.alloc (.cells #[.slice A3 X.length c3, .int .i64 er] 72)).cell? ⟨w2.heap.size, 0, none⟩ = some (.slice A3 X.length c3)) := ⟨F0.out⟩
      replace F1 : Aside0 ((w2.alloc (.cells #[.slice A3 X.length c3, .int .i64 er] 72)).cell? ⟨w2.heap.size, 1, none⟩ = some (.int .i64 er)) := ⟨F1.out⟩
      replace HB := HB.alloc (.cells #[.slice A3 X.length c3, .int .i64 er] 72)
      replace HA := Aside0.mk (Kd.C_alloc HA.out (.cells #[.slice A3 X.length c3, .int .i64 er] 72))
      replace X1 := Aside0.mk (Kd.C_alloc X1.out (.cells #[.slice A3 X.length c3, .int .i64 er] 72))
      replace X2 := Aside0.mk (Kd.C_alloc X2.out (.cells #[.slice A3 X.length c3, .int .i64 er] 72))
      clear HL
      generalize w2.alloc (.cells #[.slice A3 X.length c3, .int .i64 er] 72) = w3 at *
      generalize w2.heap.size = Bk at *
      have be : (er == er) = true := by simp
      go_region_with ((first | (go_at_call 46; refine (vsanity_calls _).mono ?_; rintro e w5 ⟨rfl, hb⟩; replace F0 := Aside0.mk (pw_cell_below (w := w3.drew) hb.out F0.out); replace F1 := Aside0.mk (pw_cell_below (w := w3.drew) hb.out F1.out); replace HA := Aside0.mk (Kd.C_below (Kd.C_drew HA.out) hb.out); replace X1 := Aside0.mk (Kd.C_below (Kd.C_drew X1.out) hb.out); replace X2 := Aside0.mk (Kd.C_below (Kd.C_drew X2.out) hb.out); replace HB := HB.drew.trans hb; clear hb; have f0 := F0.out; have f1 := F1.out) | (go_at_call 69; refine (Encode_calls _ _ l _ HA.out HC0.out HW.out (by omega)).mono ?_; rintro e w6 ⟨v3, rfl, HO3, hb⟩; obtain ⟨A4, c4, rfl, -, hC⟩ := HO3.reads; replace F0 := Aside0.mk (pw_cell_below hb.out F0.out); replace F1 := Aside0.mk (pw_cell_below hb.out F1.out); replace HA := Aside0.mk (Kd.C_below HA.out hb.out); replace X1 := Aside0.mk (Kd.C_below X1.out hb.out); replace X2 := Aside0.mk (Kd.C_below X2.out hb.out); replace HB := HB.trans hb; have Y1 := Aside0.mk hC; have s1 := Kd.C_string (P := Try.prog) (c := c4) Try.underlying28 Try.underlying5 Try.underlying9 Y1.out; clear hC HO3 hb; have f0 := F0.out; have f1 := F1.out) | (go_at_call 70; refine (refEncode_calls _ _ l _ HA.out HC0.out HW.out (by omega)).mono ?_; rintro e w7 ⟨v4, rfl, HO4, hb⟩; obtain ⟨A5, c5, rfl, -, hC⟩ := HO4.reads; replace F0 := Aside0.mk (pw_cell_below hb.out F0.out); replace F1 := Aside0.mk (pw_cell_below hb.out F1.out); replace HA := Aside0.mk (Kd.C_below HA.out hb.out); replace X1 := Aside0.mk (Kd.C_below X1.out hb.out); replace X2 := Aside0.mk (Kd.C_below X2.out hb.out); replace HB := HB.trans hb; replace Y1 := Aside0.mk (Kd.C_below Y1.out hb.out); have s2 := Kd.C_string (P := Try.prog) (c := c4) Try.underlying28 Try.underlying5 Try.underlying9 Y1.out; have Y2 := Aside0.mk hC; have s3 := Kd.C_string (P := Try.prog) (c := c5) Try.underlying28 Try.underlying5 Try.underlying9 Y2.out; clear hC HO4 hb; have f0 := F0.out; have f1 := F1.out) | (go_at_call 54; refine (refSame_calls _ _ _ _ X X _ X1.out X2.out).mono ?_; rintro e w8 ⟨rfl, hd⟩; rw [same_true]; have hb := Bel.mk' hd.below; replace F0 := Aside0.mk (pw_cell_below hb.out F0.out); replace F1 := Aside0.mk (pw_cell_below hb.out F1.out); replace HA := Aside0.mk (Kd.C_below HA.out hb.out); replace X1 := Aside0.mk (Kd.C_below X1.out hb.out); replace X2 := Aside0.mk (Kd.C_below X2.out hb.out); replace HB := HB.trans hb; clear hb hd; have f0 := F0.out; have f1 := F1.out)))
      all_goals go_wp2
      all_goals go_ret
      all_goals exact ⟨rfl, HB⟩
    · go_enter Try.func16, Try.ntmps16
      go_wp2_with fail
      refine (vsanity_calls _).mono ?_
      rintro e w1 ⟨rfl, hb⟩
      replace HA := Aside0.mk (Kd.C_below HA.out hb.out)
      replace HL := Aside0.mk (Kd.C_below HL.out hb.out)
      replace HB := HB.trans hb
      clear hb
      go_wp2
      go_ret
      exact ⟨rfl, HB⟩
  · go_enter Try.func16, Try.ntmps16
    go_wp2_with fail
    refine (vsanity_calls _).mono ?_
    rintro e w1 ⟨rfl, hb⟩
    replace HA := Aside0.mk (Kd.C_below HA.out hb.out)
    replace HL := Aside0.mk (Kd.C_below HL.out hb.out)
    replace HB := HB.trans hb
    clear hb
    go_wp2
    go_ret
    exact ⟨rfl, HB⟩
end Go.Proofs.Ytfngbmcedkncjaa
