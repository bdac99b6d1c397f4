/- VectorsAreOrdered (18): walked. -/
import Derived.Test.YtfngbmcedkncjaaVSane
namespace Go.Proofs.Ytfngbmcedkncjaa
open Go.RowKit Go.Proofs.YtfngbmcedkncjaaW.PrintWords Go.Proofs.YtfngbmcedkncjaaW.PrintLast Go.Proofs.YtfngbmcedkncjaaW.PrintMore Plain
set_option linter.unusedVariables false
set_option linter.unusedSimpArgs false
theorem Bel.mk' {B : Nat} {w w' : World} (h : Below B w w') : Bel B w w' := ⟨h⟩
/-- Equal so far. -/
def eqTo (a b : List Int) (k : Nat) (t : Bool) : Prop := (t = true → a.length = b.length ∧ a.take k = b.take k) ∧ (t = false → a ≠ b)
theorem eqTo_zero {a b : List Int} {t : Bool} (h : decide (a.length = b.length) = t) : eqTo a b 0 t := by
  subst h
  refine ⟨fun h => ⟨of_decide_eq_true h, rfl⟩, fun h e => ?_⟩
  subst e
  simp at h
theorem eqTo_yes {a b : List Int} {k : Nat} (h : eqTo a b k true) (hk : k < a.length) (hx : rd a k = rd b k) : eqTo a b (k + 1) true := by
  obtain ⟨h1, h2⟩ := h.1 rfl
  refine ⟨fun _ => ⟨h1, ?_⟩, fun e => by cases e⟩
  rw [List.take_add_one, List.take_add_one, h2, rd_at' hk, rd_at' (show k < b.length by omega), hx]
theorem eqTo_no {a b : List Int} {k : Nat} (hx : rd a k ≠ rd b k) : eqTo a b (k + 1) false :=
  ⟨fun e => (by cases e), fun _ e => hx (by rw [e])⟩
theorem eqTo_stay {a b : List Int} {k : Nat} (h : eqTo a b k false) : eqTo a b (k + 1) false := ⟨fun e => (by cases e), h.2⟩
theorem eqTo_end {a b : List Int} {k : Nat} {t : Bool} (h : eqTo a b k t) (hk : ¬ k < a.length) : (vc a b == 0) = t := by
  rw [vc_zero]
  cases t with
  | true =>
    obtain ⟨h1, h2⟩ := h.1 rfl
    rw [List.take_of_length_le (by omega), List.take_of_length_le (by omega)] at h2
    simp [h2]
  | false => simp [h.2 rfl]
set_option maxHeartbeats 4000000 in
set_option maxRecDepth 100000 in
theorem law18 (A0 A1 A2 : Option Addr) (c0 c1 c2 : Nat) (a b d : List Int) (w : World) (h0 : Kd.C (Kd.int .i64) w A0 a.length a) (h1 : Kd.C (Kd.int .i64) w A1 b.length b) (h2 : Kd.C (Kd.int .i64) w A2 d.length d) :
    Calls Try.prog 18 #[.slice A0 a.length c0, .slice A1 b.length c1, .slice A2 d.length c2] w fun e w' => e = .returned (.bool true) ∧ Bel w.heap.size w w' := by
  have HA := Aside0.mk h0
  have HL := Aside0.mk h1
  have HD := Aside0.mk h2
  have HB := Bel.refl w
  have m0 := h0.2.1
  have m1 := h1.2.1
  have m2 := h2.2.1
  clear h0 h1 h2
  by_cases l0 : a.length ≤ 40
  · by_cases l1 : b.length ≤ 40
    · by_cases l2 : d.length ≤ 40
      · obtain ⟨r1, r2⟩ := vc_range a b
        obtain ⟨r3, r4⟩ := vc_range b d
        obtain ⟨r5, r6⟩ := vc_range a d
        obtain ⟨r7, r8⟩ := vc_range b a
        have hturn := vc_turn a b
        have HT : Aside0 (vc a b ≤ 0 → vc b d ≤ 0 → vc a d ≤ 0) := ⟨vc_trans a b d⟩
        have HE : Aside0 (∀ k t, eqTo a b k t → ¬ k < a.length → (vc a b == 0) = t) := ⟨fun k t h hk => eqTo_end h hk⟩
        generalize hx : vc a b = x at *
        generalize hy : vc b d = y at *
        generalize hz : vc a d = z at *
        generalize hu : vc b a = u at *
        have HX := Aside0.mk hx
        have HY := Aside0.mk hy
        have HZ := Aside0.mk hz
        have HU := Aside0.mk hu
        have b1 : (x == -u) = true := beq_iff_eq.2 hturn
        clear hx hy hz hu hturn
        generalize ht : decide (a.length = b.length) = t0
        have H0 := Aside0.mk (eqTo_zero ht)
        have q1 : ((a.length : Int) == (b.length : Int)) = t0 := by rw [← ht, Bool.eq_iff_iff, beq_iff_eq, decide_eq_true_iff]; omega
        have q2 : (a.length == b.length) = t0 := by rw [← ht, Bool.eq_iff_iff, beq_iff_eq, decide_eq_true_iff]
        clear ht
        go_enter Try.func18, Try.ntmps18
        go_wp2_with fail
        refine (Compare_calls _ _ _ _ a b _ HA.out HL.out).mono ?_
        rintro e w1 ⟨rfl, hb⟩
        rw [HX.out]
        replace HA := Aside0.mk (Kd.C_below HA.out hb.out)
        replace HL := Aside0.mk (Kd.C_below HL.out hb.out)
        replace HD := Aside0.mk (Kd.C_below HD.out hb.out)
        replace HB := HB.trans hb
        clear hb
        go_wp2_with fail
        refine (Compare_calls _ _ _ _ b d _ HL.out HD.out).mono ?_
        rintro e w1 ⟨rfl, hb⟩
        rw [HY.out]
        replace HA := Aside0.mk (Kd.C_below HA.out hb.out)
        replace HL := Aside0.mk (Kd.C_below HL.out hb.out)
        replace HD := Aside0.mk (Kd.C_below HD.out hb.out)
        replace HB := HB.trans hb
        clear hb
        go_wp2_with fail
        refine (Compare_calls _ _ _ _ a d _ HA.out HD.out).mono ?_
        rintro e w1 ⟨rfl, hb⟩
        rw [HZ.out]
        replace HA := Aside0.mk (Kd.C_below HA.out hb.out)
        replace HL := Aside0.mk (Kd.C_below HL.out hb.out)
        replace HD := Aside0.mk (Kd.C_below HD.out hb.out)
        replace HB := HB.trans hb
        clear hb
        go_wp2
        clear q1 q2
        go_loopw [10, 42] (fun v10 v42 wr => ∃ (k : Nat) (t : Bool), v10 = .bool t ∧ v42 = .int .i64 k ∧ k ≤ a.length ∧ Aside0 (eqTo a b k t) ∧ Aside0 (Kd.C (Kd.int .i64) wr A0 a.length a) ∧ Aside0 (Kd.C (Kd.int .i64) wr A1 b.length b) ∧ Aside0 (Kd.C (Kd.int .i64) wr A2 d.length d) ∧ Bel w.heap.size w wr) (fun _ v42 _ => a.length - (intOf v42).toNat)
        case atStart => exact ⟨0, t0, rfl, rfl, by omega, H0, HA, HL, HD, HB⟩
        case round =>
          clear HA HL HD HB H0
          obtain ⟨k, t, rfl, rfl, hk, H, HA, HL, HD, HB⟩ := hrel
          by_cases hlt : k < a.length
          · have hq : (k : Int) < (a.length : Int) := by omega
            cases t with
            | false =>
              have HS := Aside0.mk (eqTo_stay H.out)
              go_wp2
              go_quiet (fail)
              have hd := (Drawn0.refl wr).step nq
              have hb := Bel.mk' hd.below
              clear hd
              replace HA := Aside0.mk (Kd.C_below HA.out hb.out)
              replace HL := Aside0.mk (Kd.C_below HL.out hb.out)
              replace HD := Aside0.mk (Kd.C_below HD.out hb.out)
              replace HB := HB.trans hb
              clear hb
              go_wp2
              go_roundw
              case rel => exact ⟨k + 1, _, rfl, by go_num, by omega, HS, HA, HL, HD, HB⟩
              case measure => simp [intOf]; omega
            | true =>
              have hlt' : k < b.length := by have := (H.out.1 rfl).1; omega
              have hq' : (k : Int) < (b.length : Int) := by omega
              obtain ⟨ad, e, hx⟩ := Kd.at_int HA.out k (by omega) hq
              cases e
              obtain ⟨ad', e, hx'⟩ := Kd.at_int HL.out k (by omega) hq'
              cases e
              rw [Int.toNat_natCast] at hx hx'
              by_cases he : rd a k = rd b k
              · have HS := Aside0.mk (eqTo_yes H.out hlt he)
                have hbe : (rd a k == rd b k) = true := beq_iff_eq.2 he
                clear he
                generalize rd a k = p at *
                generalize rd b k = q at *
                go_wp2
                go_quiet (fail)
                have hd := (Drawn0.refl wr).step nq
                clear hbe hx hx'
                have hb := Bel.mk' hd.below
                clear hd
                replace HA := Aside0.mk (Kd.C_below HA.out hb.out)
                replace HL := Aside0.mk (Kd.C_below HL.out hb.out)
                replace HD := Aside0.mk (Kd.C_below HD.out hb.out)
                replace HB := HB.trans hb
                clear hb
                go_wp2
                go_roundw
                case rel => exact ⟨k + 1, _, rfl, by go_num, by omega, HS, HA, HL, HD, HB⟩
                case measure => simp [intOf]; omega
              · have HS := Aside0.mk (eqTo_no he)
                have hbe : (rd a k == rd b k) = false := beq_eq_false_iff_ne.2 he
                clear he
                generalize rd a k = p at *
                generalize rd b k = q at *
                go_wp2
                go_quiet (fail)
                have hd := (Drawn0.refl wr).step nq
                clear hbe hx hx'
                have hb := Bel.mk' hd.below
                clear hd
                replace HA := Aside0.mk (Kd.C_below HA.out hb.out)
                replace HL := Aside0.mk (Kd.C_below HL.out hb.out)
                replace HD := Aside0.mk (Kd.C_below HD.out hb.out)
                replace HB := HB.trans hb
                clear hb
                go_wp2
                go_roundw
                case rel => exact ⟨k + 1, _, rfl, by go_num, by omega, HS, HA, HL, HD, HB⟩
                case measure => simp [intOf]; omega
          · have hz := HE.out k t H.out hlt
            clear HE H
            cases t with
            | true =>
              by_cases x1 : x > 0
              · have g1 := x1
                go_wp2_with fail
                refine (vsanity_calls _).mono ?_
                rintro e w1 ⟨rfl, hb⟩
                replace HA := Aside0.mk (Kd.C_below HA.out hb.out)
                replace HL := Aside0.mk (Kd.C_below HL.out hb.out)
                replace HD := Aside0.mk (Kd.C_below HD.out hb.out)
                replace HB := HB.trans hb
                clear hb
                go_wp2_with fail
                refine (Compare_calls _ _ _ _ b a _ HL.out HA.out).mono ?_
                rintro e w1 ⟨rfl, hb⟩
                rw [HU.out]
                replace HA := Aside0.mk (Kd.C_below HA.out hb.out)
                replace HL := Aside0.mk (Kd.C_below HL.out hb.out)
                replace HD := Aside0.mk (Kd.C_below HD.out hb.out)
                replace HB := HB.trans hb
                clear hb
                go_wp2
                go_ret
                exact ⟨rfl, HB⟩
              · by_cases y1 : y > 0
                · have g1 := y1
                  go_wp2_with fail
                  refine (vsanity_calls _).mono ?_
                  rintro e w1 ⟨rfl, hb⟩
                  replace HA := Aside0.mk (Kd.C_below HA.out hb.out)
                  replace HL := Aside0.mk (Kd.C_below HL.out hb.out)
                  replace HD := Aside0.mk (Kd.C_below HD.out hb.out)
                  replace HB := HB.trans hb
                  clear hb
                  go_wp2_with fail
                  refine (Compare_calls _ _ _ _ b a _ HL.out HA.out).mono ?_
                  rintro e w1 ⟨rfl, hb⟩
                  rw [HU.out]
                  replace HA := Aside0.mk (Kd.C_below HA.out hb.out)
                  replace HL := Aside0.mk (Kd.C_below HL.out hb.out)
                  replace HD := Aside0.mk (Kd.C_below HD.out hb.out)
                  replace HB := HB.trans hb
                  clear hb
                  go_wp2
                  go_ret
                  exact ⟨rfl, HB⟩
                · have g2 := HT.out (by omega) (by omega)
                  go_wp2_with fail
                  refine (vsanity_calls _).mono ?_
                  rintro e w1 ⟨rfl, hb⟩
                  replace HA := Aside0.mk (Kd.C_below HA.out hb.out)
                  replace HL := Aside0.mk (Kd.C_below HL.out hb.out)
                  replace HD := Aside0.mk (Kd.C_below HD.out hb.out)
                  replace HB := HB.trans hb
                  clear hb
                  go_wp2_with fail
                  refine (Compare_calls _ _ _ _ b a _ HL.out HA.out).mono ?_
                  rintro e w1 ⟨rfl, hb⟩
                  rw [HU.out]
                  replace HA := Aside0.mk (Kd.C_below HA.out hb.out)
                  replace HL := Aside0.mk (Kd.C_below HL.out hb.out)
                  replace HD := Aside0.mk (Kd.C_below HD.out hb.out)
                  replace HB := HB.trans hb
                  clear hb
                  go_wp2
                  go_ret
                  exact ⟨rfl, HB⟩
            | false =>
              by_cases x1 : x > 0
              · have g1 := x1
                go_wp2_with fail
                refine (vsanity_calls _).mono ?_
                rintro e w1 ⟨rfl, hb⟩
                replace HA := Aside0.mk (Kd.C_below HA.out hb.out)
                replace HL := Aside0.mk (Kd.C_below HL.out hb.out)
                replace HD := Aside0.mk (Kd.C_below HD.out hb.out)
                replace HB := HB.trans hb
                clear hb
                go_wp2_with fail
                refine (Compare_calls _ _ _ _ b a _ HL.out HA.out).mono ?_
                rintro e w1 ⟨rfl, hb⟩
                rw [HU.out]
                replace HA := Aside0.mk (Kd.C_below HA.out hb.out)
                replace HL := Aside0.mk (Kd.C_below HL.out hb.out)
                replace HD := Aside0.mk (Kd.C_below HD.out hb.out)
                replace HB := HB.trans hb
                clear hb
                go_wp2
                go_ret
                exact ⟨rfl, HB⟩
              · by_cases y1 : y > 0
                · have g1 := y1
                  go_wp2_with fail
                  refine (vsanity_calls _).mono ?_
                  rintro e w1 ⟨rfl, hb⟩
                  replace HA := Aside0.mk (Kd.C_below HA.out hb.out)
                  replace HL := Aside0.mk (Kd.C_below HL.out hb.out)
                  replace HD := Aside0.mk (Kd.C_below HD.out hb.out)
                  replace HB := HB.trans hb
                  clear hb
                  go_wp2_with fail
                  refine (Compare_calls _ _ _ _ b a _ HL.out HA.out).mono ?_
                  rintro e w1 ⟨rfl, hb⟩
                  rw [HU.out]
                  replace HA := Aside0.mk (Kd.C_below HA.out hb.out)
                  replace HL := Aside0.mk (Kd.C_below HL.out hb.out)
                  replace HD := Aside0.mk (Kd.C_below HD.out hb.out)
                  replace HB := HB.trans hb
                  clear hb
                  go_wp2
                  go_ret
                  exact ⟨rfl, HB⟩
                · have g2 := HT.out (by omega) (by omega)
                  go_wp2_with fail
                  refine (vsanity_calls _).mono ?_
                  rintro e w1 ⟨rfl, hb⟩
                  replace HA := Aside0.mk (Kd.C_below HA.out hb.out)
                  replace HL := Aside0.mk (Kd.C_below HL.out hb.out)
                  replace HD := Aside0.mk (Kd.C_below HD.out hb.out)
                  replace HB := HB.trans hb
                  clear hb
                  go_wp2_with fail
                  refine (Compare_calls _ _ _ _ b a _ HL.out HA.out).mono ?_
                  rintro e w1 ⟨rfl, hb⟩
                  rw [HU.out]
                  replace HA := Aside0.mk (Kd.C_below HA.out hb.out)
                  replace HL := Aside0.mk (Kd.C_below HL.out hb.out)
                  replace HD := Aside0.mk (Kd.C_below HD.out hb.out)
                  replace HB := HB.trans hb
                  clear hb
                  go_wp2
                  go_ret
                  exact ⟨rfl, HB⟩
      · go_enter Try.func18, Try.ntmps18
        go_wp2_with fail
        refine (vsanity_calls _).mono ?_
        rintro e w1 ⟨rfl, hb⟩
        replace HA := Aside0.mk (Kd.C_below HA.out hb.out)
        replace HL := Aside0.mk (Kd.C_below HL.out hb.out)
        replace HD := Aside0.mk (Kd.C_below HD.out hb.out)
        replace HB := HB.trans hb
        clear hb
        go_wp2
        go_ret
        exact ⟨rfl, HB⟩
    · go_enter Try.func18, Try.ntmps18
      go_wp2_with fail
      refine (vsanity_calls _).mono ?_
      rintro e w1 ⟨rfl, hb⟩
      replace HA := Aside0.mk (Kd.C_below HA.out hb.out)
      replace HL := Aside0.mk (Kd.C_below HL.out hb.out)
      replace HD := Aside0.mk (Kd.C_below HD.out hb.out)
      replace HB := HB.trans hb
      clear hb
      go_wp2
      go_ret
      exact ⟨rfl, HB⟩
  · go_enter Try.func18, Try.ntmps18
    go_wp2_with fail
    refine (vsanity_calls _).mono ?_
    rintro e w1 ⟨rfl, hb⟩
    replace HA := Aside0.mk (Kd.C_below HA.out hb.out)
    replace HL := Aside0.mk (Kd.C_below HL.out hb.out)
    replace HD := Aside0.mk (Kd.C_below HD.out hb.out)
    replace HB := HB.trans hb
    clear hb
    go_wp2
    go_ret
    exact ⟨rfl, HB⟩
end Go.Proofs.Ytfngbmcedkncjaa
