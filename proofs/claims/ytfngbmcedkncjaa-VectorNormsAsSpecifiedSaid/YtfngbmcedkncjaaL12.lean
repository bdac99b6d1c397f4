/- VectorNormsAsSpecified (12): walked. -/
import Derived.Test.YtfngbmcedkncjaaVSane
namespace Go.Proofs.Ytfngbmcedkncjaa
open Go.RowKit Go.Proofs.YtfngbmcedkncjaaW.PrintWords Go.Proofs.YtfngbmcedkncjaaW.PrintLast Go.Proofs.YtfngbmcedkncjaaW.PrintMore Plain
set_option linter.unusedVariables false
set_option linter.unusedSimpArgs false
theorem Bel.mk' {B : Nat} {w w' : World} (h : Below B w w') : Bel B w w' := ⟨h⟩
theorem same_true (x : List Int) : decide (x = x) = true := by simp
/-- Rows that are all alike. -/
theorem all_rows {l : List (List Int)} (h : vAllB l 20 = true) : Rows32 (rw_ l 0).length l ∧ 0 < (rw_ l 0).length := by
  unfold vAllB at h
  simp only [Bool.and_eq_true, decide_eq_true_iff] at h
  obtain ⟨h1, h2, h3⟩ := h
  unfold alls at h1
  rw [List.all_eq_true] at h1
  have h4 := vAlike_iff.1 (h1 _ (row_mem (show 0 < l.length by omega)))
  obtain ⟨h5, h6, h7⟩ := vOk_iff.1 h4.1
  refine ⟨⟨⟨by omega, by omega⟩, by omega, fun v hv => ?_⟩, by omega⟩
  obtain ⟨k1, k2, k3⟩ := vAlike_iff.1 (h1 v hv)
  exact ⟨k3.symm, (vOk_iff.1 k2).1⟩
set_option maxHeartbeats 4000000 in
set_option maxRecDepth 100000 in
theorem law12 (m : Int) (A0 A1 : Option Addr) (c0 c1 : Nat) (v : List Int) (l : List (List Int)) (w : World) (h0 : Kd.C (Kd.int .i64) w A0 v.length v) (h1 : Kd.C rowK w A1 l.length l) :
    Calls Try.prog 12 #[.int .i64 m, .slice A0 v.length c0, .slice A1 l.length c1] w fun e w' => e = .returned (.bool true) ∧ Bel w.heap.size w w' := by
  have HA := Aside0.mk h0
  have HL := Aside0.mk h1
  have HB := Bel.refl w
  have m0 := h0.2.1
  have m1 := h1.2.1
  clear h0 h1
  generalize hall : vAllB l 20 = q
  have HALL := Aside0.mk hall
  clear hall
  generalize hd : vDiff v = p
  have HD := Aside0.mk hd
  clear hd
  generalize ht : isMet m = r
  have HM := Aside0.mk ht
  clear ht
  cases q
  · skip
    cases p
    · skip
      go_enter Try.func12, Try.ntmps12
      go_wp2_with fail
      refine (Difference_calls _ _ v _ HA.out).mono ?_
      rintro e w1 ⟨rfl, rfl⟩
      rw [HD.out]
      go_wp2_with fail
      refine (refAll_calls _ _ l 20 _ HL.out).mono ?_
      rintro e w1 ⟨rfl, hd⟩
      rw [HALL.out]
      have hb := Bel.mk' hd.below
      clear hd
      replace HA := Aside0.mk (Kd.C_below HA.out hb.out)
      replace HL := Aside0.mk (Kd.C_below HL.out hb.out)
      replace HB := HB.trans hb
      clear hb
      go_wp2_with fail
      refine (vsanity_calls _).mono ?_
      rintro e w1 ⟨rfl, hb⟩
      replace HA := Aside0.mk (Kd.C_below HA.out hb.out)
      replace HL := Aside0.mk (Kd.C_below HL.out hb.out)
      replace HB := HB.trans hb
      clear hb
      go_wp2
      go_ret
      exact ⟨rfl, HB⟩
    · cases r
      · skip
        go_enter Try.func12, Try.ntmps12
        go_wp2_with fail
        refine (Difference_calls _ _ v _ HA.out).mono ?_
        rintro e w1 ⟨rfl, rfl⟩
        rw [HD.out]
        go_wp2_with fail
        refine (Metric_calls m _).mono ?_
        rintro e w1 ⟨rfl, rfl⟩
        rw [HM.out]
        go_wp2_with fail
        refine (refAll_calls _ _ l 20 _ HL.out).mono ?_
        rintro e w1 ⟨rfl, hd⟩
        rw [HALL.out]
        have hb := Bel.mk' hd.below
        clear hd
        replace HA := Aside0.mk (Kd.C_below HA.out hb.out)
        replace HL := Aside0.mk (Kd.C_below HL.out hb.out)
        replace HB := HB.trans hb
        clear hb
        go_wp2_with fail
        refine (vsanity_calls _).mono ?_
        rintro e w1 ⟨rfl, hb⟩
        replace HA := Aside0.mk (Kd.C_below HA.out hb.out)
        replace HL := Aside0.mk (Kd.C_below HL.out hb.out)
        replace HB := HB.trans hb
        clear hb
        go_wp2
        go_ret
        exact ⟨rfl, HB⟩
      · skip
        have hmm : 1 ≤ m ∧ m ≤ 3 := by have := HM.out; simpa [isMet] using this
        have HM2 := Aside0.mk hmm
        have HS : Aside0 (Small v) := ⟨(vDiff_iff.1 HD.out).1⟩
        have hn : v.length ≤ 32 := (vDiff_iff.1 HD.out).2.2
        clear hmm
        go_enter Try.func12, Try.ntmps12
        go_wp2_with fail
        refine (Difference_calls _ _ v _ HA.out).mono ?_
        rintro e w1 ⟨rfl, rfl⟩
        rw [HD.out]
        go_wp2_with fail
        refine (Metric_calls m _).mono ?_
        rintro e w1 ⟨rfl, rfl⟩
        rw [HM.out]
        go_wp2_with fail
        refine (Norm_calls HM2.out _ _ v _ HA.out HS.out (by omega)).mono ?_
        rintro e w1 ⟨rfl, hb⟩
        replace HA := Aside0.mk (Kd.C_below HA.out hb.out)
        replace HL := Aside0.mk (Kd.C_below HL.out hb.out)
        replace HB := HB.trans hb
        clear hb
        go_wp2_with fail
        refine (refNorm_calls HM2.out _ _ v _ HA.out HS.out (by omega)).mono ?_
        rintro e w1 ⟨rfl, hd⟩
        have hb := Bel.mk' hd.below
        clear hd
        replace HA := Aside0.mk (Kd.C_below HA.out hb.out)
        replace HL := Aside0.mk (Kd.C_below HL.out hb.out)
        replace HB := HB.trans hb
        clear hb
        generalize vnorm m v = x
        have b1 : (x != x) = false := by simp
        go_wp2_with fail
        refine (Dot_calls _ _ _ _ v v _ HA.out HA.out rfl HS.out HS.out (by omega)).mono ?_
        rintro e w1 ⟨rfl, rfl⟩
        go_wp2_with fail
        refine (refDot_calls _ _ _ _ v v _ HA.out HA.out rfl HS.out HS.out (by omega)).mono ?_
        rintro e w1 ⟨rfl, hd⟩
        have hb := Bel.mk' hd.below
        clear hd
        replace HA := Aside0.mk (Kd.C_below HA.out hb.out)
        replace HL := Aside0.mk (Kd.C_below HL.out hb.out)
        replace HB := HB.trans hb
        clear hb
        generalize vdot v v = y
        have b2 : (y != y) = false := by simp
        go_wp2_with fail
        refine (refAll_calls _ _ l 20 _ HL.out).mono ?_
        rintro e w1 ⟨rfl, hd⟩
        rw [HALL.out]
        have hb := Bel.mk' hd.below
        clear hd
        replace HA := Aside0.mk (Kd.C_below HA.out hb.out)
        replace HL := Aside0.mk (Kd.C_below HL.out hb.out)
        replace HB := HB.trans hb
        clear hb
        go_wp2_with fail
        refine (vsanity_calls _).mono ?_
        rintro e w1 ⟨rfl, hb⟩
        replace HA := Aside0.mk (Kd.C_below HA.out hb.out)
        replace HL := Aside0.mk (Kd.C_below HL.out hb.out)
        replace HB := HB.trans hb
        clear hb
        go_wp2
        go_ret
        exact ⟨rfl, HB⟩
  · have HR := Aside0.mk (all_rows HALL.out)
    cases p
    · skip
      go_enter Try.func12, Try.ntmps12
      go_wp2_with fail
      refine (Difference_calls _ _ v _ HA.out).mono ?_
      rintro e w1 ⟨rfl, rfl⟩
      rw [HD.out]
      go_wp2_with fail
      refine (refAll_calls _ _ l 20 _ HL.out).mono ?_
      rintro e w1 ⟨rfl, hd⟩
      rw [HALL.out]
      have hb := Bel.mk' hd.below
      clear hd
      replace HA := Aside0.mk (Kd.C_below HA.out hb.out)
      replace HL := Aside0.mk (Kd.C_below HL.out hb.out)
      replace HB := HB.trans hb
      clear hb
      go_wp2_with fail
      refine (vsanity_calls _).mono ?_
      rintro e w1 ⟨rfl, hb⟩
      replace HA := Aside0.mk (Kd.C_below HA.out hb.out)
      replace HL := Aside0.mk (Kd.C_below HL.out hb.out)
      replace HB := HB.trans hb
      clear hb
      go_wp2_with fail
      refine (Mean_calls _ _ l _ _ HL.out HR.out.1 HR.out.2).mono ?_
      rintro e w1 ⟨v, rfl, HO, hb⟩
      obtain ⟨AS1, cS1, rfl, hcS1, hC⟩ := HO.reads
      replace HA := Aside0.mk (Kd.C_below HA.out hb.out)
      replace HL := Aside0.mk (Kd.C_below HL.out hb.out)
      replace HB := HB.trans hb
      clear hb
      have S1 := Aside0.mk hC
      clear hC HO
      go_wp2_with fail
      refine (refMean_calls _ _ l _ _ HL.out HR.out.1).mono ?_
      rintro e w1 ⟨v, rfl, HO, hb⟩
      obtain ⟨AS2, cS2, rfl, hcS2, hC⟩ := HO.reads
      replace HA := Aside0.mk (Kd.C_below HA.out hb.out)
      replace HL := Aside0.mk (Kd.C_below HL.out hb.out)
      replace S1 := Aside0.mk (Kd.C_below S1.out hb.out)
      replace HB := HB.trans hb
      clear hb
      have S2 := Aside0.mk hC
      clear hC HO
      go_wp2_with fail
      refine (refSame_calls _ _ _ _ (vmean (rw_ l 0).length l) (vmean (rw_ l 0).length l) _ S1.out S2.out).mono ?_
      rintro e w1 ⟨rfl, hd⟩
      rw [same_true]
      have hb := Bel.mk' hd.below
      clear hd
      replace HA := Aside0.mk (Kd.C_below HA.out hb.out)
      replace HL := Aside0.mk (Kd.C_below HL.out hb.out)
      replace S1 := Aside0.mk (Kd.C_below S1.out hb.out)
      replace S2 := Aside0.mk (Kd.C_below S2.out hb.out)
      replace HB := HB.trans hb
      clear hb
      go_wp2
      go_ret
      exact ⟨rfl, HB⟩
    · cases r
      · skip
        go_enter Try.func12, Try.ntmps12
        go_wp2_with fail
        refine (Difference_calls _ _ v _ HA.out).mono ?_
        rintro e w1 ⟨rfl, rfl⟩
        rw [HD.out]
        go_wp2_with fail
        refine (Metric_calls m _).mono ?_
        rintro e w1 ⟨rfl, rfl⟩
        rw [HM.out]
        go_wp2_with fail
        refine (refAll_calls _ _ l 20 _ HL.out).mono ?_
        rintro e w1 ⟨rfl, hd⟩
        rw [HALL.out]
        have hb := Bel.mk' hd.below
        clear hd
        replace HA := Aside0.mk (Kd.C_below HA.out hb.out)
        replace HL := Aside0.mk (Kd.C_below HL.out hb.out)
        replace HB := HB.trans hb
        clear hb
        go_wp2_with fail
        refine (vsanity_calls _).mono ?_
        rintro e w1 ⟨rfl, hb⟩
        replace HA := Aside0.mk (Kd.C_below HA.out hb.out)
        replace HL := Aside0.mk (Kd.C_below HL.out hb.out)
        replace HB := HB.trans hb
        clear hb
        go_wp2_with fail
        refine (Mean_calls _ _ l _ _ HL.out HR.out.1 HR.out.2).mono ?_
        rintro e w1 ⟨v, rfl, HO, hb⟩
        obtain ⟨AS1, cS1, rfl, hcS1, hC⟩ := HO.reads
        replace HA := Aside0.mk (Kd.C_below HA.out hb.out)
        replace HL := Aside0.mk (Kd.C_below HL.out hb.out)
        replace HB := HB.trans hb
        clear hb
        have S1 := Aside0.mk hC
        clear hC HO
        go_wp2_with fail
        refine (refMean_calls _ _ l _ _ HL.out HR.out.1).mono ?_
        rintro e w1 ⟨v, rfl, HO, hb⟩
        obtain ⟨AS2, cS2, rfl, hcS2, hC⟩ := HO.reads
        replace HA := Aside0.mk (Kd.C_below HA.out hb.out)
        replace HL := Aside0.mk (Kd.C_below HL.out hb.out)
        replace S1 := Aside0.mk (Kd.C_below S1.out hb.out)
        replace HB := HB.trans hb
        clear hb
        have S2 := Aside0.mk hC
        clear hC HO
        go_wp2_with fail
        refine (refSame_calls _ _ _ _ (vmean (rw_ l 0).length l) (vmean (rw_ l 0).length l) _ S1.out S2.out).mono ?_
        rintro e w1 ⟨rfl, hd⟩
        rw [same_true]
        have hb := Bel.mk' hd.below
        clear hd
        replace HA := Aside0.mk (Kd.C_below HA.out hb.out)
        replace HL := Aside0.mk (Kd.C_below HL.out hb.out)
        replace S1 := Aside0.mk (Kd.C_below S1.out hb.out)
        replace S2 := Aside0.mk (Kd.C_below S2.out hb.out)
        replace HB := HB.trans hb
        clear hb
        go_wp2
        go_ret
        exact ⟨rfl, HB⟩
      · skip
        have hmm : 1 ≤ m ∧ m ≤ 3 := by have := HM.out; simpa [isMet] using this
        have HM2 := Aside0.mk hmm
        have HS : Aside0 (Small v) := ⟨(vDiff_iff.1 HD.out).1⟩
        have hn : v.length ≤ 32 := (vDiff_iff.1 HD.out).2.2
        clear hmm
        go_enter Try.func12, Try.ntmps12
        go_wp2_with fail
        refine (Difference_calls _ _ v _ HA.out).mono ?_
        rintro e w1 ⟨rfl, rfl⟩
        rw [HD.out]
        go_wp2_with fail
        refine (Metric_calls m _).mono ?_
        rintro e w1 ⟨rfl, rfl⟩
        rw [HM.out]
        go_wp2_with fail
        refine (Norm_calls HM2.out _ _ v _ HA.out HS.out (by omega)).mono ?_
        rintro e w1 ⟨rfl, hb⟩
        replace HA := Aside0.mk (Kd.C_below HA.out hb.out)
        replace HL := Aside0.mk (Kd.C_below HL.out hb.out)
        replace HB := HB.trans hb
        clear hb
        go_wp2_with fail
        refine (refNorm_calls HM2.out _ _ v _ HA.out HS.out (by omega)).mono ?_
        rintro e w1 ⟨rfl, hd⟩
        have hb := Bel.mk' hd.below
        clear hd
        replace HA := Aside0.mk (Kd.C_below HA.out hb.out)
        replace HL := Aside0.mk (Kd.C_below HL.out hb.out)
        replace HB := HB.trans hb
        clear hb
        generalize vnorm m v = x
        have b1 : (x != x) = false := by simp
        go_wp2_with fail
        refine (Dot_calls _ _ _ _ v v _ HA.out HA.out rfl HS.out HS.out (by omega)).mono ?_
        rintro e w1 ⟨rfl, rfl⟩
        go_wp2_with fail
        refine (refDot_calls _ _ _ _ v v _ HA.out HA.out rfl HS.out HS.out (by omega)).mono ?_
        rintro e w1 ⟨rfl, hd⟩
        have hb := Bel.mk' hd.below
        clear hd
        replace HA := Aside0.mk (Kd.C_below HA.out hb.out)
        replace HL := Aside0.mk (Kd.C_below HL.out hb.out)
        replace HB := HB.trans hb
        clear hb
        generalize vdot v v = y
        have b2 : (y != y) = false := by simp
        go_wp2_with fail
        refine (refAll_calls _ _ l 20 _ HL.out).mono ?_
        rintro e w1 ⟨rfl, hd⟩
        rw [HALL.out]
        have hb := Bel.mk' hd.below
        clear hd
        replace HA := Aside0.mk (Kd.C_below HA.out hb.out)
        replace HL := Aside0.mk (Kd.C_below HL.out hb.out)
        replace HB := HB.trans hb
        clear hb
        go_wp2_with fail
        refine (vsanity_calls _).mono ?_
        rintro e w1 ⟨rfl, hb⟩
        replace HA := Aside0.mk (Kd.C_below HA.out hb.out)
        replace HL := Aside0.mk (Kd.C_below HL.out hb.out)
        replace HB := HB.trans hb
        clear hb
        go_wp2_with fail
        refine (Mean_calls _ _ l _ _ HL.out HR.out.1 HR.out.2).mono ?_
        rintro e w1 ⟨v, rfl, HO, hb⟩
        obtain ⟨AS1, cS1, rfl, hcS1, hC⟩ := HO.reads
        replace HA := Aside0.mk (Kd.C_below HA.out hb.out)
        replace HL := Aside0.mk (Kd.C_below HL.out hb.out)
        replace HB := HB.trans hb
        clear hb
        have S1 := Aside0.mk hC
        clear hC HO
        go_wp2_with fail
        refine (refMean_calls _ _ l _ _ HL.out HR.out.1).mono ?_
        rintro e w1 ⟨v, rfl, HO, hb⟩
        obtain ⟨AS2, cS2, rfl, hcS2, hC⟩ := HO.reads
        replace HA := Aside0.mk (Kd.C_below HA.out hb.out)
        replace HL := Aside0.mk (Kd.C_below HL.out hb.out)
        replace S1 := Aside0.mk (Kd.C_below S1.out hb.out)
        replace HB := HB.trans hb
        clear hb
        have S2 := Aside0.mk hC
        clear hC HO
        go_wp2_with fail
        refine (refSame_calls _ _ _ _ (vmean (rw_ l 0).length l) (vmean (rw_ l 0).length l) _ S1.out S2.out).mono ?_
        rintro e w1 ⟨rfl, hd⟩
        rw [same_true]
        have hb := Bel.mk' hd.below
        clear hd
        replace HA := Aside0.mk (Kd.C_below HA.out hb.out)
        replace HL := Aside0.mk (Kd.C_below HL.out hb.out)
        replace S1 := Aside0.mk (Kd.C_below S1.out hb.out)
        replace S2 := Aside0.mk (Kd.C_below S2.out hb.out)
        replace HB := HB.trans hb
        clear hb
        go_wp2
        go_ret
        exact ⟨rfl, HB⟩
end Go.Proofs.Ytfngbmcedkncjaa
