/- VectorKeysAreDistances (13): walked. -/
import Derived.Test.YtfngbmcedkncjaaVSane
namespace Go.Proofs.Ytfngbmcedkncjaa
open Go.RowKit Go.Proofs.YtfngbmcedkncjaaW.PrintWords Go.Proofs.YtfngbmcedkncjaaW.PrintLast Go.Proofs.YtfngbmcedkncjaaW.PrintMore Plain
set_option linter.unusedVariables false
set_option linter.unusedSimpArgs false
theorem Bel.mk' {B : Nat} {w w' : World} (h : Below B w w') : Bel B w w' := ⟨h⟩
theorem vkey_bd {m : Int} (hm : 1 ≤ m ∧ m ≤ 3) {a b : List Int} (h : vAlike a b = true) : 0 ≤ vkey m a b ∧ vkey m a b ≤ 128000000 := by
  obtain ⟨h1, h2, h3⟩ := vDiff_iff.1 (vsub_diff h)
  have hl : ((vsub a b).length : Int) ≤ 32 := by omega
  unfold vkey
  rcases (show m = 1 ∨ m = 2 ∨ m = 3 by omega) with rfl | rfl | rfl
  · rw [vnorm1]; have := sumabs_nonneg (vsub a b); have := sumabs_le h1; omega
  · rw [vnorm2]; have := sumsq_nonneg (vsub a b); have := sumsq_le h1; omega
  · rw [vnorm3]; have := maxabs_nonneg (vsub a b); have := maxabs_le h1; omega
theorem vkey_comm {m : Int} (hm : 1 ≤ m ∧ m ≤ 3) (a b : List Int) : vkey m a b = vkey m b a := by
  unfold vkey
  rcases (show m = 1 ∨ m = 2 ∨ m = 3 by omega) with rfl | rfl | rfl
  · rw [vnorm1, vnorm1, sumabs_comm]
  · rw [vnorm2, vnorm2, sumsq_comm]
  · rw [vnorm3, vnorm3, maxabs_comm]
theorem vkey_zero {m : Int} (hm : 1 ≤ m ∧ m ≤ 3) {a b : List Int} (h : a.length = b.length) : (vkey m a b == 0) = (vc a b == 0) := by
  rw [vc_zero, Bool.eq_iff_iff, beq_iff_eq, decide_eq_true_iff, ← vsub_zero h]
  unfold vkey
  rcases (show m = 1 ∨ m = 2 ∨ m = 3 by omega) with rfl | rfl | rfl
  · rw [vnorm1]; exact sumabs_zero
  · rw [vnorm2]; exact ⟨fun h => sumsq_zero h, fun h => sumsq_zero' h⟩
  · rw [vnorm3]; exact maxabs_zero
theorem vkey_tri {m : Int} (hm : m = 1 ∨ m = 3) {a b c : List Int} (h1 : a.length = b.length) (h2 : b.length = c.length) : vkey m a c - vkey m a b - vkey m b c ≤ 0 := by
  unfold vkey
  rcases hm with rfl | rfl
  · rw [vnorm1, vnorm1, vnorm1]; have := sumabs_tri h1 h2; omega
  · rw [vnorm3, vnorm3, vnorm3]; have := maxabs_tri h1 h2; omega
theorem vkey_tri2 {a b c : List Int} (h1 : a.length = b.length) (h2 : b.length = c.length) : (vkey 2 a c - vkey 2 a b - vkey 2 b c) * (vkey 2 a c - vkey 2 a b - vkey 2 b c) ≤ 4 * vkey 2 a b * vkey 2 b c := by
  unfold vkey
  rw [vnorm2, vnorm2, vnorm2]
  have h := vsub_tri h1 h2
  have hc := cauchy (a := vsub a b) (b := vsub b c) (by rw [vsub_length h1, vsub_length h2]; exact h1)
  have e : sumsq (vsub a c) - sumsq (vsub a b) - sumsq (vsub b c) = 2 * prod (vsub a b) (vsub b c) := by omega
  rw [e]
  generalize prod (vsub a b) (vsub b c) = p at *
  generalize sumsq (vsub a b) = s at *
  generalize sumsq (vsub b c) = t at *
  have e1 : 2 * p * (2 * p) = 4 * (p * p) := by grind
  have e2 : 4 * s * t = 4 * (s * t) := by grind
  omega
/-- What the law computes of its keys. -/
theorem over_bd {x y z : Int} (hx : 0 ≤ x ∧ x ≤ 128000000) (hy : 0 ≤ y ∧ y ≤ 128000000) (hz : 0 ≤ z ∧ z ≤ 128000000) : (-65536000000000000 ≤ (x - y - z) * (x - y - z) ∧ (x - y - z) * (x - y - z) ≤ 65536000000000000) ∧ 0 ≤ 4 * y * z ∧ 4 * y * z ≤ 65536000000000000 := by
  have h1 := mul_bd (x := x - y - z) (y := x - y - z) (k := 256000000) (by omega) (by omega)
  have h2 := mul_bd (x := y) (y := z) (k := 128000000) (by omega) (by omega)
  have h3 := Int.mul_nonneg hy.1 hz.1
  have e2 : 4 * y * z = 4 * (y * z) := by grind
  omega
set_option maxHeartbeats 2000000 in
set_option maxRecDepth 100000 in
theorem law13 (m : Int) (A0 A1 A2 : Option Addr) (c0 c1 c2 : Nat) (a b d : List Int) (w : World) (h0 : Kd.C (Kd.int .i64) w A0 a.length a) (h1 : Kd.C (Kd.int .i64) w A1 b.length b) (h2 : Kd.C (Kd.int .i64) w A2 d.length d) :
    Calls Try.prog 13 #[.int .i64 m, .slice A0 a.length c0, .slice A1 b.length c1, .slice A2 d.length c2] w fun e w' => e = .returned (.bool true) ∧ Bel w.heap.size w w' := by
  have HA := Aside0.mk h0
  have HL := Aside0.mk h1
  have HD := Aside0.mk h2
  have HB := Bel.refl w
  have m0 := h0.2.1
  have m1 := h1.2.1
  have m2 := h2.2.1
  clear h0 h1 h2
  generalize hq : vAlike a b = q
  have HQ := Aside0.mk hq
  clear hq
  cases q with
  | false =>
    go_enter Try.func13, Try.ntmps13
    go_wp2_with fail
    refine (refAlike_calls _ _ _ _ a b _ HA.out HL.out).mono ?_
    rintro e w1 ⟨rfl, rfl⟩
    rw [HQ.out]
    go_wp2_with fail
    refine (vsanity_calls _).mono ?_
    rintro e w1 ⟨rfl, hb⟩
    replace HA := Aside0.mk (Kd.C_below HA.out hb.out)
    replace HL := Aside0.mk (Kd.C_below HL.out hb.out)
    replace HD := Aside0.mk (Kd.C_below HD.out hb.out)
    replace HB := HB.trans hb
    clear hb
    go_wp2
    go_ret
    exact ⟨rfl, HB⟩
  | true =>
    generalize hq : vAlike b d = q
    have HQ2 := Aside0.mk hq
    clear hq
    cases q with
    | false =>
      go_enter Try.func13, Try.ntmps13
      go_wp2_with fail
      refine (refAlike_calls _ _ _ _ a b _ HA.out HL.out).mono ?_
      rintro e w1 ⟨rfl, rfl⟩
      rw [HQ.out]
      go_wp2_with fail
      refine (refAlike_calls _ _ _ _ b d _ HL.out HD.out).mono ?_
      rintro e w1 ⟨rfl, rfl⟩
      rw [HQ2.out]
      go_wp2_with fail
      refine (vsanity_calls _).mono ?_
      rintro e w1 ⟨rfl, hb⟩
      replace HA := Aside0.mk (Kd.C_below HA.out hb.out)
      replace HL := Aside0.mk (Kd.C_below HL.out hb.out)
      replace HD := Aside0.mk (Kd.C_below HD.out hb.out)
      replace HB := HB.trans hb
      clear hb
      go_wp2
      go_ret
      exact ⟨rfl, HB⟩
    | true =>
      by_cases hmt : isMet m = true
      · have HM := Aside0.mk hmt
        have hmm : 1 ≤ m ∧ m ≤ 3 := by simpa [isMet] using hmt
        have HM2 := Aside0.mk hmm
        obtain ⟨k1, k2, k3⟩ := vAlike_iff.1 HQ.out
        obtain ⟨k4, k5, k6⟩ := vAlike_iff.1 HQ2.out
        have HQ3 : Aside0 (vAlike a d = true) := ⟨vAlike_iff.2 ⟨k1, k5, by omega⟩⟩
        have HQ4 : Aside0 (vAlike d a = true) := ⟨vAlike_iff.2 ⟨k5, k1, by omega⟩⟩
        obtain ⟨x1, x2⟩ := vkey_bd hmm HQ3.out
        obtain ⟨y1, y2⟩ := vkey_bd hmm HQ.out
        obtain ⟨z1, z2⟩ := vkey_bd hmm HQ2.out
        obtain ⟨⟨o1, o2⟩, o3, o4⟩ := over_bd ⟨x1, x2⟩ ⟨y1, y2⟩ ⟨z1, z2⟩
        have HK := Aside0.mk (vkey_comm hmm a d)
        have HZ := Aside0.mk (vkey_zero hmm (show a.length = d.length by omega))
        have HT : Aside0 (m = 1 ∨ m = 3 → vkey m a d - vkey m a b - vkey m b d ≤ 0) := ⟨fun h => vkey_tri h k3 k6⟩
        have HT2 : Aside0 (m = 2 → (vkey m a d - vkey m a b - vkey m b d) * (vkey m a d - vkey m a b - vkey m b d) ≤ 4 * vkey m a b * vkey m b d) := ⟨fun h => by subst h; exact vkey_tri2 k3 k6⟩
        have HX : Aside0 (vkey m d a = vkey m a d) := ⟨HK.out.symm⟩
        clear k1 k2 k3 k4 k5 k6 hmt hmm HK
        generalize hx : vkey m a d = x at *
        generalize hy : vkey m a b = y at *
        generalize hz : vkey m b d = z at *
        generalize hv : vc a d = v at *
        have HX1 := Aside0.mk hx
        have HY1 := Aside0.mk hy
        have HZ1 := Aside0.mk hz
        have HV1 := Aside0.mk hv
        have n1 : (x != x) = false := by simp
        clear hx hy hz hv
        by_cases hx0 : x = 0
        · have e3 : (x == 0) = true := beq_iff_eq.2 hx0
          have e4 : (v == 0) = true := by rw [← HZ.out]; exact e3
          clear hx0
          by_cases hm2 : m = 2
          · have t1 := HT2.out hm2
            have e2 : (m == 2) = true := beq_iff_eq.2 hm2
            clear hm2
            by_cases ho : x - y - z ≤ 0
            · have u1 := ho

              go_enter Try.func13, Try.ntmps13
              go_wp2_with fail
              refine (refAlike_calls _ _ _ _ a b _ HA.out HL.out).mono ?_
              rintro e w1 ⟨rfl, rfl⟩
              rw [HQ.out]
              go_wp2_with fail
              refine (refAlike_calls _ _ _ _ b d _ HL.out HD.out).mono ?_
              rintro e w1 ⟨rfl, rfl⟩
              rw [HQ2.out]
              go_wp2_with fail
              refine (Metric_calls m _).mono ?_
              rintro e w1 ⟨rfl, rfl⟩
              rw [HM.out]
              go_wp2_with fail
              refine (Key_calls HM2.out _ _ _ _ a d _ HA.out HD.out HQ3.out).mono ?_
              rintro e w1 ⟨rfl, hb⟩
              rw [HX1.out]
              replace HA := Aside0.mk (Kd.C_below HA.out hb.out)
              replace HL := Aside0.mk (Kd.C_below HL.out hb.out)
              replace HD := Aside0.mk (Kd.C_below HD.out hb.out)
              replace HB := HB.trans hb
              clear hb
              go_wp2_with fail
              refine (Key_calls HM2.out _ _ _ _ a b _ HA.out HL.out HQ.out).mono ?_
              rintro e w1 ⟨rfl, hb⟩
              rw [HY1.out]
              replace HA := Aside0.mk (Kd.C_below HA.out hb.out)
              replace HL := Aside0.mk (Kd.C_below HL.out hb.out)
              replace HD := Aside0.mk (Kd.C_below HD.out hb.out)
              replace HB := HB.trans hb
              clear hb
              go_wp2_with fail
              refine (Key_calls HM2.out _ _ _ _ b d _ HL.out HD.out HQ2.out).mono ?_
              rintro e w1 ⟨rfl, hb⟩
              rw [HZ1.out]
              replace HA := Aside0.mk (Kd.C_below HA.out hb.out)
              replace HL := Aside0.mk (Kd.C_below HL.out hb.out)
              replace HD := Aside0.mk (Kd.C_below HD.out hb.out)
              replace HB := HB.trans hb
              clear hb
              go_wp2_with fail
              refine (Key_calls HM2.out _ _ _ _ d a _ HD.out HA.out HQ4.out).mono ?_
              rintro e w1 ⟨rfl, hb⟩
              rw [HX.out]
              replace HA := Aside0.mk (Kd.C_below HA.out hb.out)
              replace HL := Aside0.mk (Kd.C_below HL.out hb.out)
              replace HD := Aside0.mk (Kd.C_below HD.out hb.out)
              replace HB := HB.trans hb
              clear hb
              go_wp2_with fail
              refine (Compare_calls _ _ _ _ a d _ HA.out HD.out).mono ?_
              rintro e w1 ⟨rfl, hb⟩
              rw [HV1.out]
              replace HA := Aside0.mk (Kd.C_below HA.out hb.out)
              replace HL := Aside0.mk (Kd.C_below HL.out hb.out)
              replace HD := Aside0.mk (Kd.C_below HD.out hb.out)
              replace HB := HB.trans hb
              clear hb
              go_wp2_with fail
              refine (vsanity_calls _).mono ?_
              rintro e w1 ⟨rfl, hb⟩
              replace HA := Aside0.mk (Kd.C_below HA.out hb.out)
              replace HL := Aside0.mk (Kd.C_below HL.out hb.out)
              replace HD := Aside0.mk (Kd.C_below HD.out hb.out)
              replace HB := HB.trans hb
              clear hb
              go_wp2
              go_ret
              exact ⟨rfl, HB⟩
            · have u1 := ho

              go_enter Try.func13, Try.ntmps13
              go_wp2_with fail
              refine (refAlike_calls _ _ _ _ a b _ HA.out HL.out).mono ?_
              rintro e w1 ⟨rfl, rfl⟩
              rw [HQ.out]
              go_wp2_with fail
              refine (refAlike_calls _ _ _ _ b d _ HL.out HD.out).mono ?_
              rintro e w1 ⟨rfl, rfl⟩
              rw [HQ2.out]
              go_wp2_with fail
              refine (Metric_calls m _).mono ?_
              rintro e w1 ⟨rfl, rfl⟩
              rw [HM.out]
              go_wp2_with fail
              refine (Key_calls HM2.out _ _ _ _ a d _ HA.out HD.out HQ3.out).mono ?_
              rintro e w1 ⟨rfl, hb⟩
              rw [HX1.out]
              replace HA := Aside0.mk (Kd.C_below HA.out hb.out)
              replace HL := Aside0.mk (Kd.C_below HL.out hb.out)
              replace HD := Aside0.mk (Kd.C_below HD.out hb.out)
              replace HB := HB.trans hb
              clear hb
              go_wp2_with fail
              refine (Key_calls HM2.out _ _ _ _ a b _ HA.out HL.out HQ.out).mono ?_
              rintro e w1 ⟨rfl, hb⟩
              rw [HY1.out]
              replace HA := Aside0.mk (Kd.C_below HA.out hb.out)
              replace HL := Aside0.mk (Kd.C_below HL.out hb.out)
              replace HD := Aside0.mk (Kd.C_below HD.out hb.out)
              replace HB := HB.trans hb
              clear hb
              go_wp2_with fail
              refine (Key_calls HM2.out _ _ _ _ b d _ HL.out HD.out HQ2.out).mono ?_
              rintro e w1 ⟨rfl, hb⟩
              rw [HZ1.out]
              replace HA := Aside0.mk (Kd.C_below HA.out hb.out)
              replace HL := Aside0.mk (Kd.C_below HL.out hb.out)
              replace HD := Aside0.mk (Kd.C_below HD.out hb.out)
              replace HB := HB.trans hb
              clear hb
              go_wp2_with fail
              refine (Key_calls HM2.out _ _ _ _ d a _ HD.out HA.out HQ4.out).mono ?_
              rintro e w1 ⟨rfl, hb⟩
              rw [HX.out]
              replace HA := Aside0.mk (Kd.C_below HA.out hb.out)
              replace HL := Aside0.mk (Kd.C_below HL.out hb.out)
              replace HD := Aside0.mk (Kd.C_below HD.out hb.out)
              replace HB := HB.trans hb
              clear hb
              go_wp2_with fail
              refine (Compare_calls _ _ _ _ a d _ HA.out HD.out).mono ?_
              rintro e w1 ⟨rfl, hb⟩
              rw [HV1.out]
              replace HA := Aside0.mk (Kd.C_below HA.out hb.out)
              replace HL := Aside0.mk (Kd.C_below HL.out hb.out)
              replace HD := Aside0.mk (Kd.C_below HD.out hb.out)
              replace HB := HB.trans hb
              clear hb
              go_wp2_with fail
              refine (vsanity_calls _).mono ?_
              rintro e w1 ⟨rfl, hb⟩
              replace HA := Aside0.mk (Kd.C_below HA.out hb.out)
              replace HL := Aside0.mk (Kd.C_below HL.out hb.out)
              replace HD := Aside0.mk (Kd.C_below HD.out hb.out)
              replace HB := HB.trans hb
              clear hb
              go_wp2
              go_ret
              exact ⟨rfl, HB⟩
          · have t2 := HT.out (by have := HM2.out; omega)
            have e2 : (m == 2) = false := beq_eq_false_iff_ne.2 hm2
            clear hm2
            go_enter Try.func13, Try.ntmps13
            go_wp2_with fail
            refine (refAlike_calls _ _ _ _ a b _ HA.out HL.out).mono ?_
            rintro e w1 ⟨rfl, rfl⟩
            rw [HQ.out]
            go_wp2_with fail
            refine (refAlike_calls _ _ _ _ b d _ HL.out HD.out).mono ?_
            rintro e w1 ⟨rfl, rfl⟩
            rw [HQ2.out]
            go_wp2_with fail
            refine (Metric_calls m _).mono ?_
            rintro e w1 ⟨rfl, rfl⟩
            rw [HM.out]
            go_wp2_with fail
            refine (Key_calls HM2.out _ _ _ _ a d _ HA.out HD.out HQ3.out).mono ?_
            rintro e w1 ⟨rfl, hb⟩
            rw [HX1.out]
            replace HA := Aside0.mk (Kd.C_below HA.out hb.out)
            replace HL := Aside0.mk (Kd.C_below HL.out hb.out)
            replace HD := Aside0.mk (Kd.C_below HD.out hb.out)
            replace HB := HB.trans hb
            clear hb
            go_wp2_with fail
            refine (Key_calls HM2.out _ _ _ _ a b _ HA.out HL.out HQ.out).mono ?_
            rintro e w1 ⟨rfl, hb⟩
            rw [HY1.out]
            replace HA := Aside0.mk (Kd.C_below HA.out hb.out)
            replace HL := Aside0.mk (Kd.C_below HL.out hb.out)
            replace HD := Aside0.mk (Kd.C_below HD.out hb.out)
            replace HB := HB.trans hb
            clear hb
            go_wp2_with fail
            refine (Key_calls HM2.out _ _ _ _ b d _ HL.out HD.out HQ2.out).mono ?_
            rintro e w1 ⟨rfl, hb⟩
            rw [HZ1.out]
            replace HA := Aside0.mk (Kd.C_below HA.out hb.out)
            replace HL := Aside0.mk (Kd.C_below HL.out hb.out)
            replace HD := Aside0.mk (Kd.C_below HD.out hb.out)
            replace HB := HB.trans hb
            clear hb
            go_wp2_with fail
            refine (Key_calls HM2.out _ _ _ _ d a _ HD.out HA.out HQ4.out).mono ?_
            rintro e w1 ⟨rfl, hb⟩
            rw [HX.out]
            replace HA := Aside0.mk (Kd.C_below HA.out hb.out)
            replace HL := Aside0.mk (Kd.C_below HL.out hb.out)
            replace HD := Aside0.mk (Kd.C_below HD.out hb.out)
            replace HB := HB.trans hb
            clear hb
            go_wp2_with fail
            refine (Compare_calls _ _ _ _ a d _ HA.out HD.out).mono ?_
            rintro e w1 ⟨rfl, hb⟩
            rw [HV1.out]
            replace HA := Aside0.mk (Kd.C_below HA.out hb.out)
            replace HL := Aside0.mk (Kd.C_below HL.out hb.out)
            replace HD := Aside0.mk (Kd.C_below HD.out hb.out)
            replace HB := HB.trans hb
            clear hb
            go_wp2_with fail
            refine (vsanity_calls _).mono ?_
            rintro e w1 ⟨rfl, hb⟩
            replace HA := Aside0.mk (Kd.C_below HA.out hb.out)
            replace HL := Aside0.mk (Kd.C_below HL.out hb.out)
            replace HD := Aside0.mk (Kd.C_below HD.out hb.out)
            replace HB := HB.trans hb
            clear hb
            go_wp2
            go_ret
            exact ⟨rfl, HB⟩
        · have e3 : (x == 0) = false := beq_eq_false_iff_ne.2 hx0
          have e4 : (v == 0) = false := by rw [← HZ.out]; exact e3
          clear hx0
          by_cases hm2 : m = 2
          · have t1 := HT2.out hm2
            have e2 : (m == 2) = true := beq_iff_eq.2 hm2
            clear hm2
            by_cases ho : x - y - z ≤ 0
            · have u1 := ho

              go_enter Try.func13, Try.ntmps13
              go_wp2_with fail
              refine (refAlike_calls _ _ _ _ a b _ HA.out HL.out).mono ?_
              rintro e w1 ⟨rfl, rfl⟩
              rw [HQ.out]
              go_wp2_with fail
              refine (refAlike_calls _ _ _ _ b d _ HL.out HD.out).mono ?_
              rintro e w1 ⟨rfl, rfl⟩
              rw [HQ2.out]
              go_wp2_with fail
              refine (Metric_calls m _).mono ?_
              rintro e w1 ⟨rfl, rfl⟩
              rw [HM.out]
              go_wp2_with fail
              refine (Key_calls HM2.out _ _ _ _ a d _ HA.out HD.out HQ3.out).mono ?_
              rintro e w1 ⟨rfl, hb⟩
              rw [HX1.out]
              replace HA := Aside0.mk (Kd.C_below HA.out hb.out)
              replace HL := Aside0.mk (Kd.C_below HL.out hb.out)
              replace HD := Aside0.mk (Kd.C_below HD.out hb.out)
              replace HB := HB.trans hb
              clear hb
              go_wp2_with fail
              refine (Key_calls HM2.out _ _ _ _ a b _ HA.out HL.out HQ.out).mono ?_
              rintro e w1 ⟨rfl, hb⟩
              rw [HY1.out]
              replace HA := Aside0.mk (Kd.C_below HA.out hb.out)
              replace HL := Aside0.mk (Kd.C_below HL.out hb.out)
              replace HD := Aside0.mk (Kd.C_below HD.out hb.out)
              replace HB := HB.trans hb
              clear hb
              go_wp2_with fail
              refine (Key_calls HM2.out _ _ _ _ b d _ HL.out HD.out HQ2.out).mono ?_
              rintro e w1 ⟨rfl, hb⟩
              rw [HZ1.out]
              replace HA := Aside0.mk (Kd.C_below HA.out hb.out)
              replace HL := Aside0.mk (Kd.C_below HL.out hb.out)
              replace HD := Aside0.mk (Kd.C_below HD.out hb.out)
              replace HB := HB.trans hb
              clear hb
              go_wp2_with fail
              refine (Key_calls HM2.out _ _ _ _ d a _ HD.out HA.out HQ4.out).mono ?_
              rintro e w1 ⟨rfl, hb⟩
              rw [HX.out]
              replace HA := Aside0.mk (Kd.C_below HA.out hb.out)
              replace HL := Aside0.mk (Kd.C_below HL.out hb.out)
              replace HD := Aside0.mk (Kd.C_below HD.out hb.out)
              replace HB := HB.trans hb
              clear hb
              go_wp2_with fail
              refine (Compare_calls _ _ _ _ a d _ HA.out HD.out).mono ?_
              rintro e w1 ⟨rfl, hb⟩
              rw [HV1.out]
              replace HA := Aside0.mk (Kd.C_below HA.out hb.out)
              replace HL := Aside0.mk (Kd.C_below HL.out hb.out)
              replace HD := Aside0.mk (Kd.C_below HD.out hb.out)
              replace HB := HB.trans hb
              clear hb
              go_wp2_with fail
              refine (vsanity_calls _).mono ?_
              rintro e w1 ⟨rfl, hb⟩
              replace HA := Aside0.mk (Kd.C_below HA.out hb.out)
              replace HL := Aside0.mk (Kd.C_below HL.out hb.out)
              replace HD := Aside0.mk (Kd.C_below HD.out hb.out)
              replace HB := HB.trans hb
              clear hb
              go_wp2
              go_ret
              exact ⟨rfl, HB⟩
            · have u1 := ho

              go_enter Try.func13, Try.ntmps13
              go_wp2_with fail
              refine (refAlike_calls _ _ _ _ a b _ HA.out HL.out).mono ?_
              rintro e w1 ⟨rfl, rfl⟩
              rw [HQ.out]
              go_wp2_with fail
              refine (refAlike_calls _ _ _ _ b d _ HL.out HD.out).mono ?_
              rintro e w1 ⟨rfl, rfl⟩
              rw [HQ2.out]
              go_wp2_with fail
              refine (Metric_calls m _).mono ?_
              rintro e w1 ⟨rfl, rfl⟩
              rw [HM.out]
              go_wp2_with fail
              refine (Key_calls HM2.out _ _ _ _ a d _ HA.out HD.out HQ3.out).mono ?_
              rintro e w1 ⟨rfl, hb⟩
              rw [HX1.out]
              replace HA := Aside0.mk (Kd.C_below HA.out hb.out)
              replace HL := Aside0.mk (Kd.C_below HL.out hb.out)
              replace HD := Aside0.mk (Kd.C_below HD.out hb.out)
              replace HB := HB.trans hb
              clear hb
              go_wp2_with fail
              refine (Key_calls HM2.out _ _ _ _ a b _ HA.out HL.out HQ.out).mono ?_
              rintro e w1 ⟨rfl, hb⟩
              rw [HY1.out]
              replace HA := Aside0.mk (Kd.C_below HA.out hb.out)
              replace HL := Aside0.mk (Kd.C_below HL.out hb.out)
              replace HD := Aside0.mk (Kd.C_below HD.out hb.out)
              replace HB := HB.trans hb
              clear hb
              go_wp2_with fail
              refine (Key_calls HM2.out _ _ _ _ b d _ HL.out HD.out HQ2.out).mono ?_
              rintro e w1 ⟨rfl, hb⟩
              rw [HZ1.out]
              replace HA := Aside0.mk (Kd.C_below HA.out hb.out)
              replace HL := Aside0.mk (Kd.C_below HL.out hb.out)
              replace HD := Aside0.mk (Kd.C_below HD.out hb.out)
              replace HB := HB.trans hb
              clear hb
              go_wp2_with fail
              refine (Key_calls HM2.out _ _ _ _ d a _ HD.out HA.out HQ4.out).mono ?_
              rintro e w1 ⟨rfl, hb⟩
              rw [HX.out]
              replace HA := Aside0.mk (Kd.C_below HA.out hb.out)
              replace HL := Aside0.mk (Kd.C_below HL.out hb.out)
              replace HD := Aside0.mk (Kd.C_below HD.out hb.out)
              replace HB := HB.trans hb
              clear hb
              go_wp2_with fail
              refine (Compare_calls _ _ _ _ a d _ HA.out HD.out).mono ?_
              rintro e w1 ⟨rfl, hb⟩
              rw [HV1.out]
              replace HA := Aside0.mk (Kd.C_below HA.out hb.out)
              replace HL := Aside0.mk (Kd.C_below HL.out hb.out)
              replace HD := Aside0.mk (Kd.C_below HD.out hb.out)
              replace HB := HB.trans hb
              clear hb
              go_wp2_with fail
              refine (vsanity_calls _).mono ?_
              rintro e w1 ⟨rfl, hb⟩
              replace HA := Aside0.mk (Kd.C_below HA.out hb.out)
              replace HL := Aside0.mk (Kd.C_below HL.out hb.out)
              replace HD := Aside0.mk (Kd.C_below HD.out hb.out)
              replace HB := HB.trans hb
              clear hb
              go_wp2
              go_ret
              exact ⟨rfl, HB⟩
          · have t2 := HT.out (by have := HM2.out; omega)
            have e2 : (m == 2) = false := beq_eq_false_iff_ne.2 hm2
            clear hm2
            go_enter Try.func13, Try.ntmps13
            go_wp2_with fail
            refine (refAlike_calls _ _ _ _ a b _ HA.out HL.out).mono ?_
            rintro e w1 ⟨rfl, rfl⟩
            rw [HQ.out]
            go_wp2_with fail
            refine (refAlike_calls _ _ _ _ b d _ HL.out HD.out).mono ?_
            rintro e w1 ⟨rfl, rfl⟩
            rw [HQ2.out]
            go_wp2_with fail
            refine (Metric_calls m _).mono ?_
            rintro e w1 ⟨rfl, rfl⟩
            rw [HM.out]
            go_wp2_with fail
            refine (Key_calls HM2.out _ _ _ _ a d _ HA.out HD.out HQ3.out).mono ?_
            rintro e w1 ⟨rfl, hb⟩
            rw [HX1.out]
            replace HA := Aside0.mk (Kd.C_below HA.out hb.out)
            replace HL := Aside0.mk (Kd.C_below HL.out hb.out)
            replace HD := Aside0.mk (Kd.C_below HD.out hb.out)
            replace HB := HB.trans hb
            clear hb
            go_wp2_with fail
            refine (Key_calls HM2.out _ _ _ _ a b _ HA.out HL.out HQ.out).mono ?_
            rintro e w1 ⟨rfl, hb⟩
            rw [HY1.out]
            replace HA := Aside0.mk (Kd.C_below HA.out hb.out)
            replace HL := Aside0.mk (Kd.C_below HL.out hb.out)
            replace HD := Aside0.mk (Kd.C_below HD.out hb.out)
            replace HB := HB.trans hb
            clear hb
            go_wp2_with fail
            refine (Key_calls HM2.out _ _ _ _ b d _ HL.out HD.out HQ2.out).mono ?_
            rintro e w1 ⟨rfl, hb⟩
            rw [HZ1.out]
            replace HA := Aside0.mk (Kd.C_below HA.out hb.out)
            replace HL := Aside0.mk (Kd.C_below HL.out hb.out)
            replace HD := Aside0.mk (Kd.C_below HD.out hb.out)
            replace HB := HB.trans hb
            clear hb
            go_wp2_with fail
            refine (Key_calls HM2.out _ _ _ _ d a _ HD.out HA.out HQ4.out).mono ?_
            rintro e w1 ⟨rfl, hb⟩
            rw [HX.out]
            replace HA := Aside0.mk (Kd.C_below HA.out hb.out)
            replace HL := Aside0.mk (Kd.C_below HL.out hb.out)
            replace HD := Aside0.mk (Kd.C_below HD.out hb.out)
            replace HB := HB.trans hb
            clear hb
            go_wp2_with fail
            refine (Compare_calls _ _ _ _ a d _ HA.out HD.out).mono ?_
            rintro e w1 ⟨rfl, hb⟩
            rw [HV1.out]
            replace HA := Aside0.mk (Kd.C_below HA.out hb.out)
            replace HL := Aside0.mk (Kd.C_below HL.out hb.out)
            replace HD := Aside0.mk (Kd.C_below HD.out hb.out)
            replace HB := HB.trans hb
            clear hb
            go_wp2_with fail
            refine (vsanity_calls _).mono ?_
            rintro e w1 ⟨rfl, hb⟩
            replace HA := Aside0.mk (Kd.C_below HA.out hb.out)
            replace HL := Aside0.mk (Kd.C_below HL.out hb.out)
            replace HD := Aside0.mk (Kd.C_below HD.out hb.out)
            replace HB := HB.trans hb
            clear hb
            go_wp2
            go_ret
            exact ⟨rfl, HB⟩
      · have hmt2 : isMet m = false := by simpa using hmt
        have HM := Aside0.mk hmt2
        clear hmt hmt2
        go_enter Try.func13, Try.ntmps13
        go_wp2_with fail
        refine (refAlike_calls _ _ _ _ a b _ HA.out HL.out).mono ?_
        rintro e w1 ⟨rfl, rfl⟩
        rw [HQ.out]
        go_wp2_with fail
        refine (refAlike_calls _ _ _ _ b d _ HL.out HD.out).mono ?_
        rintro e w1 ⟨rfl, rfl⟩
        rw [HQ2.out]
        go_wp2_with fail
        refine (Metric_calls m _).mono ?_
        rintro e w1 ⟨rfl, rfl⟩
        rw [HM.out]
        go_wp2_with fail
        refine (vsanity_calls _).mono ?_
        rintro e w1 ⟨rfl, hb⟩
        replace HA := Aside0.mk (Kd.C_below HA.out hb.out)
        replace HL := Aside0.mk (Kd.C_below HL.out hb.out)
        replace HD := Aside0.mk (Kd.C_below HD.out hb.out)
        replace HB := HB.trans hb
        clear hb
        go_wp2
        go_ret
        exact ⟨rfl, HB⟩
end Go.Proofs.Ytfngbmcedkncjaa
