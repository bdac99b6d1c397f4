/- VectorKeysAsSpecified (11): walked. -/
import Derived.Test.YtfngbmcedkncjaaVSane
namespace Go.Proofs.Ytfngbmcedkncjaa
open Go.RowKit Go.Proofs.YtfngbmcedkncjaaW.PrintWords Go.Proofs.YtfngbmcedkncjaaW.PrintLast Go.Proofs.YtfngbmcedkncjaaW.PrintMore Plain
set_option linter.unusedVariables false
set_option linter.unusedSimpArgs false
theorem same_true (x : List Int) : decide (x = x) = true := by simp
theorem Bel.mk' {B : Nat} {w w' : World} (h : Below B w w') : Bel B w w' := ⟨h⟩
set_option maxHeartbeats 1000000 in
set_option maxRecDepth 100000 in
theorem law11 (m : Int) (A A' : Option Addr) (c c' : Nat) (l l' : List Int) (w : World) (hr : Kd.C (Kd.int .i64) w A l.length l) (hr' : Kd.C (Kd.int .i64) w A' l'.length l') :
    Calls Try.prog 11 #[.int .i64 m, .slice A l.length c, .slice A' l'.length c'] w fun e w' => e = .returned (.bool true) ∧ Bel w.heap.size w w' := by
  have HA := Aside0.mk hr
  have HL := Aside0.mk hr'
  have HB := Bel.refl w
  have hm := hr.2.1
  have hm' := hr'.2.1
  clear hr hr'
  by_cases h1 : l.length ≤ 40
  · by_cases h2 : l'.length ≤ 40
    · generalize hq : vAlike l l' = q
      have HQ := Aside0.mk hq
      generalize hp : vOk l = p
      have HP := Aside0.mk hp
      generalize hv : vc l l' = v
      have HV := Aside0.mk hv
      have b1 : (p != p) = false := by simp
      have b2 : (q != q) = false := by simp
      have b3 : (v != v) = false := by simp
      clear hq hp hv
      cases q with
      | false =>
        go_enter Try.func11, Try.ntmps11
        go_wp2_with fail
        refine (Valid_calls _ _ l _ HA.out).mono ?_
        rintro e w1 ⟨rfl, rfl⟩
        rw [HP.out]
        go_wp2_with fail
        refine (refValid_calls _ _ l _ HA.out).mono ?_
        rintro e w1 ⟨rfl, rfl⟩
        rw [HP.out]
        go_wp2_with fail
        refine (Alike_calls _ _ _ _ l l' _ HA.out HL.out).mono ?_
        rintro e w1 ⟨rfl, rfl⟩
        rw [HQ.out]
        go_wp2_with fail
        refine (refAlike_calls _ _ _ _ l l' _ HA.out HL.out).mono ?_
        rintro e w1 ⟨rfl, rfl⟩
        rw [HQ.out]
        go_wp2_with fail
        refine (Compare_calls _ _ _ _ l l' _ HA.out HL.out).mono ?_
        rintro e w1 ⟨rfl, hb⟩
        rw [HV.out]
        replace HA := Aside0.mk (Kd.C_below HA.out hb.out)
        replace HL := Aside0.mk (Kd.C_below HL.out hb.out)
        replace HB := HB.trans hb
        clear hb
        go_wp2_with fail
        refine (refCompare_calls _ _ _ _ l l' _ HA.out HL.out).mono ?_
        rintro e w1 ⟨rfl, hd⟩
        rw [HV.out]
        have hb := Bel.mk' hd.below
        clear hd
        replace HA := Aside0.mk (Kd.C_below HA.out hb.out)
        replace HL := Aside0.mk (Kd.C_below HL.out hb.out)
        replace HB := HB.trans hb
        clear hb
        go_wp2_with fail
        refine (refAlike_calls _ _ _ _ l l' _ HA.out HL.out).mono ?_
        rintro e w1 ⟨rfl, rfl⟩
        rw [HQ.out]
        go_wp2_with fail
        refine (vsanity_calls _).mono ?_
        rintro e w1 ⟨rfl, hb⟩
        replace HA := Aside0.mk (Kd.C_below HA.out hb.out)
        replace HL := Aside0.mk (Kd.C_below HL.out hb.out)
        replace HB := HB.trans hb
        clear hb
        go_wp2
        go_ret
        exact ⟨rfl, HB⟩
      | true =>
        obtain ⟨k1, k2, k3⟩ := vAlike_iff.1 HQ.out
        obtain ⟨g1, -⟩ := vOk_iff.1 k1
        obtain ⟨g2, g3⟩ := vOk_iff.1 k2
        have HS : Aside0 (Small l ∧ Small l' ∧ l.length = l'.length) := ⟨fun x hx => by have := g1 x hx; omega, fun x hx => by have := g2 x hx; omega, k3⟩
        clear k1 k2 k3 g1 g2 g3
        by_cases hmt : isMet m = true
        · have HM := Aside0.mk hmt
          have HM2 : Aside0 (1 ≤ m ∧ m ≤ 3) := ⟨by simpa [isMet] using hmt⟩
          clear hmt
          go_enter Try.func11, Try.ntmps11
          go_wp2_with fail
          refine (Valid_calls _ _ l _ HA.out).mono ?_
          rintro e w1 ⟨rfl, rfl⟩
          rw [HP.out]
          go_wp2_with fail
          refine (refValid_calls _ _ l _ HA.out).mono ?_
          rintro e w1 ⟨rfl, rfl⟩
          rw [HP.out]
          go_wp2_with fail
          refine (Alike_calls _ _ _ _ l l' _ HA.out HL.out).mono ?_
          rintro e w1 ⟨rfl, rfl⟩
          rw [HQ.out]
          go_wp2_with fail
          refine (refAlike_calls _ _ _ _ l l' _ HA.out HL.out).mono ?_
          rintro e w1 ⟨rfl, rfl⟩
          rw [HQ.out]
          go_wp2_with fail
          refine (Compare_calls _ _ _ _ l l' _ HA.out HL.out).mono ?_
          rintro e w1 ⟨rfl, hb⟩
          rw [HV.out]
          replace HA := Aside0.mk (Kd.C_below HA.out hb.out)
          replace HL := Aside0.mk (Kd.C_below HL.out hb.out)
          replace HB := HB.trans hb
          clear hb
          go_wp2_with fail
          refine (refCompare_calls _ _ _ _ l l' _ HA.out HL.out).mono ?_
          rintro e w1 ⟨rfl, hd⟩
          rw [HV.out]
          have hb := Bel.mk' hd.below
          clear hd
          replace HA := Aside0.mk (Kd.C_below HA.out hb.out)
          replace HL := Aside0.mk (Kd.C_below HL.out hb.out)
          replace HB := HB.trans hb
          clear hb
          go_wp2_with fail
          refine (refAlike_calls _ _ _ _ l l' _ HA.out HL.out).mono ?_
          rintro e w1 ⟨rfl, rfl⟩
          rw [HQ.out]
          go_wp2_with fail
          refine (Metric_calls m _).mono ?_
          rintro e w1 ⟨rfl, rfl⟩
          rw [HM.out]
          go_wp2_with fail
          refine (vsanity_calls _).mono ?_
          rintro e w1 ⟨rfl, hb⟩
          replace HA := Aside0.mk (Kd.C_below HA.out hb.out)
          replace HL := Aside0.mk (Kd.C_below HL.out hb.out)
          replace HB := HB.trans hb
          clear hb
          go_wp2_with fail
          refine (Sub_calls _ _ _ _ l l' _ HA.out HL.out HS.out.2.2 HS.out.1 HS.out.2.1 (by omega)).mono ?_
          rintro e w1 ⟨v, rfl, HO, hb⟩
          obtain ⟨AS1, cS1, rfl, hcS1, hC⟩ := HO.reads
          replace HA := Aside0.mk (Kd.C_below HA.out hb.out)
          replace HL := Aside0.mk (Kd.C_below HL.out hb.out)
          replace HB := HB.trans hb
          clear hb
          have S1 := Aside0.mk hC
          clear hC HO
          go_wp2_with fail
          refine (refSub_calls _ _ _ _ l l' _ HA.out HL.out HS.out.2.2 HS.out.1 HS.out.2.1 (by omega)).mono ?_
          rintro e w1 ⟨v, rfl, HO, hb⟩
          obtain ⟨AS2, cS2, rfl, hcS2, hC⟩ := HO.reads
          replace HA := Aside0.mk (Kd.C_below HA.out hb.out)
          replace HL := Aside0.mk (Kd.C_below HL.out hb.out)
          replace S1 := Aside0.mk (Kd.C_below S1.out hb.out)
          replace HB := HB.trans hb
          clear hb
          have S2 := Aside0.mk hC
          clear hC HO
          go_wp2_with fail
          refine (refSame_calls _ _ _ _ (vsub l l') (vsub l l') _ S1.out S2.out).mono ?_
          rintro e w1 ⟨rfl, hd⟩
          rw [same_true]
          have hb := Bel.mk' hd.below
          clear hd
          replace HA := Aside0.mk (Kd.C_below HA.out hb.out)
          replace HL := Aside0.mk (Kd.C_below HL.out hb.out)
          replace S1 := Aside0.mk (Kd.C_below S1.out hb.out)
          replace S2 := Aside0.mk (Kd.C_below S2.out hb.out)
          replace HB := HB.trans hb
          clear hb
          clear S1 S2
          go_wp2_with fail
          refine (Dot_calls _ _ _ _ l l' _ HA.out HL.out HS.out.2.2 HS.out.1 HS.out.2.1 (by omega)).mono ?_
          rintro e w1 ⟨rfl, rfl⟩
          go_wp2_with fail
          refine (refDot_calls _ _ _ _ l l' _ HA.out HL.out HS.out.2.2 HS.out.1 HS.out.2.1 (by omega)).mono ?_
          rintro e w1 ⟨rfl, hd⟩
          have hb := Bel.mk' hd.below
          clear hd
          replace HA := Aside0.mk (Kd.C_below HA.out hb.out)
          replace HL := Aside0.mk (Kd.C_below HL.out hb.out)
          replace HB := HB.trans hb
          clear hb
          generalize vdot l l' = x
          have b4 : (x == x) = true := by simp
          go_wp2_with fail
          refine (Key_calls HM2.out _ _ _ _ l l' _ HA.out HL.out HQ.out).mono ?_
          rintro e w1 ⟨rfl, hb⟩
          replace HA := Aside0.mk (Kd.C_below HA.out hb.out)
          replace HL := Aside0.mk (Kd.C_below HL.out hb.out)
          replace HB := HB.trans hb
          clear hb
          go_wp2_with fail
          refine (refKey_calls HM2.out _ _ _ _ l l' _ HA.out HL.out HQ.out).mono ?_
          rintro e w1 ⟨rfl, hb⟩
          replace HA := Aside0.mk (Kd.C_below HA.out hb.out)
          replace HL := Aside0.mk (Kd.C_below HL.out hb.out)
          replace HB := HB.trans hb
          clear hb
          generalize vkey m l l' = y
          have b5 : (y == y) = true := by simp
          go_wp2
          go_ret
          exact ⟨rfl, HB⟩
        · have hmt2 : isMet m = false := by simpa using hmt
          have HM := Aside0.mk hmt2
          clear hmt hmt2
          go_enter Try.func11, Try.ntmps11
          go_wp2_with fail
          refine (Valid_calls _ _ l _ HA.out).mono ?_
          rintro e w1 ⟨rfl, rfl⟩
          rw [HP.out]
          go_wp2_with fail
          refine (refValid_calls _ _ l _ HA.out).mono ?_
          rintro e w1 ⟨rfl, rfl⟩
          rw [HP.out]
          go_wp2_with fail
          refine (Alike_calls _ _ _ _ l l' _ HA.out HL.out).mono ?_
          rintro e w1 ⟨rfl, rfl⟩
          rw [HQ.out]
          go_wp2_with fail
          refine (refAlike_calls _ _ _ _ l l' _ HA.out HL.out).mono ?_
          rintro e w1 ⟨rfl, rfl⟩
          rw [HQ.out]
          go_wp2_with fail
          refine (Compare_calls _ _ _ _ l l' _ HA.out HL.out).mono ?_
          rintro e w1 ⟨rfl, hb⟩
          rw [HV.out]
          replace HA := Aside0.mk (Kd.C_below HA.out hb.out)
          replace HL := Aside0.mk (Kd.C_below HL.out hb.out)
          replace HB := HB.trans hb
          clear hb
          go_wp2_with fail
          refine (refCompare_calls _ _ _ _ l l' _ HA.out HL.out).mono ?_
          rintro e w1 ⟨rfl, hd⟩
          rw [HV.out]
          have hb := Bel.mk' hd.below
          clear hd
          replace HA := Aside0.mk (Kd.C_below HA.out hb.out)
          replace HL := Aside0.mk (Kd.C_below HL.out hb.out)
          replace HB := HB.trans hb
          clear hb
          go_wp2_with fail
          refine (refAlike_calls _ _ _ _ l l' _ HA.out HL.out).mono ?_
          rintro e w1 ⟨rfl, rfl⟩
          rw [HQ.out]
          go_wp2_with fail
          refine (Metric_calls m _).mono ?_
          rintro e w1 ⟨rfl, rfl⟩
          rw [HM.out]
          go_wp2_with fail
          refine (vsanity_calls _).mono ?_
          rintro e w1 ⟨rfl, hb⟩
          replace HA := Aside0.mk (Kd.C_below HA.out hb.out)
          replace HL := Aside0.mk (Kd.C_below HL.out hb.out)
          replace HB := HB.trans hb
          clear hb
          go_wp2
          go_ret
          exact ⟨rfl, HB⟩
    · go_enter Try.func11, Try.ntmps11
      go_wp2_with fail
      refine (vsanity_calls _).mono ?_
      rintro e w1 ⟨rfl, hb⟩
      replace HA := Aside0.mk (Kd.C_below HA.out hb.out)
      replace HL := Aside0.mk (Kd.C_below HL.out hb.out)
      replace HB := HB.trans hb
      clear hb
      go_wp2
      go_ret
      exact ⟨rfl, HB⟩
  · go_enter Try.func11, Try.ntmps11
    go_wp2_with fail
    refine (vsanity_calls _).mono ?_
    rintro e w1 ⟨rfl, hb⟩
    replace HA := Aside0.mk (Kd.C_below HA.out hb.out)
    replace HL := Aside0.mk (Kd.C_below HL.out hb.out)
    replace HB := HB.trans hb
    clear hb
    go_wp2
    go_ret
    exact ⟨rfl, HB⟩
end Go.Proofs.Ytfngbmcedkncjaa
