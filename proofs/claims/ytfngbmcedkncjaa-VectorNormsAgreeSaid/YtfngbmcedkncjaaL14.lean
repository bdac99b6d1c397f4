/- VectorNormsAgree (14): walked. -/
import Derived.Test.YtfngbmcedkncjaaVSane
namespace Go.Proofs.Ytfngbmcedkncjaa
open Go.RowKit Go.Proofs.YtfngbmcedkncjaaW.PrintWords Go.Proofs.YtfngbmcedkncjaaW.PrintLast Go.Proofs.YtfngbmcedkncjaaW.PrintMore Plain
set_option linter.unusedVariables false
set_option linter.unusedSimpArgs false
theorem Bel.mk' {B : Nat} {w w' : World} (h : Below B w w') : Bel B w w' := ⟨h⟩
/-- The numbers of the law: how they lie. -/
theorem norms_of {D : List Int} (hs : ∀ x ∈ D, -2000 ≤ x ∧ x ≤ 2000) (hn : D.length ≤ 32) :
    (0 ≤ vnorm 1 D ∧ vnorm 1 D ≤ 64000) ∧ (0 ≤ vnorm 2 D ∧ vnorm 2 D ≤ 128000000) ∧ (0 ≤ vnorm 3 D ∧ vnorm 3 D ≤ 2000) ∧
    vnorm 3 D ≤ vnorm 1 D ∧ vnorm 1 D ≤ D.length * vnorm 3 D ∧ vnorm 3 D * vnorm 3 D ≤ vnorm 2 D ∧ vnorm 2 D ≤ vnorm 3 D * vnorm 1 D ∧ vnorm 1 D * vnorm 1 D ≤ D.length * vnorm 2 D ∧ vdot D D = vnorm 2 D := by
  rw [vnorm1, vnorm2, vnorm3, vdot_eq, prod_self]
  have h1 := sumabs_nonneg D
  have h2 := sumabs_le hs
  have h3 := sumsq_nonneg D
  have h4 := sumsq_le hs
  have h5 := maxabs_nonneg D
  have h6 := maxabs_le hs
  exact ⟨⟨h1, by omega⟩, ⟨h3, by omega⟩, ⟨h5, h6⟩, max_le_sum D, sum_le_max (fun x hx => abs_le_max hx), max_sq D, sumsq_le_max (fun x hx => abs_le_max hx), sum_sq D, rfl⟩
theorem dist_of {a b : List Int} (h : a.length = b.length) : vkey 2 a b = vnorm 2 a + vnorm 2 b - 2 * vdot a b := by
  unfold vkey
  rw [vnorm2, vnorm2, vnorm2, vdot_eq, sumsq_vsub h]
theorem dot_bd {a b : List Int} (ha : Small a) (hb : Small b) : ∀ (h : a.length = b.length), -(4000000 * (a.length : Int)) ≤ vdot a b ∧ vdot a b ≤ 4000000 * (a.length : Int) := by
  rw [vdot_eq]
  induction a generalizing b with
  | nil => intro h; cases b with
    | nil => simp [prod]
    | cons y b => simp at h
  | cons x a ih => intro h; cases b with
    | nil => simp at h
    | cons y b =>
      have h1 := ih (b := b) (fun z hz => ha z (by simp [hz])) (fun z hz => hb z (by simp [hz])) (by simpa using h)
      have h2 := mul_bd (ha x (by simp)) (hb y (by simp))
      simp only [prod, List.length_cons]
      omega
theorem prods {d m s e : Int} (hd : 0 ≤ d ∧ d ≤ 32) (hm : 0 ≤ m ∧ m ≤ 2000) (hs : 0 ≤ s ∧ s ≤ 64000) (he : 0 ≤ e ∧ e ≤ 128000000) :
    (0 ≤ d * m ∧ d * m ≤ 64000) ∧ (0 ≤ m * m ∧ m * m ≤ 4000000) ∧ (0 ≤ m * s ∧ m * s ≤ 128000000) ∧ (0 ≤ s * s ∧ s * s ≤ 4096000000) ∧ 0 ≤ d * e ∧ d * e ≤ 4096000000 :=
  ⟨⟨Int.mul_nonneg hd.1 hm.1, Int.mul_le_mul hd.2 hm.2 hm.1 (by omega)⟩, ⟨Int.mul_nonneg hm.1 hm.1, Int.mul_le_mul hm.2 hm.2 hm.1 (by omega)⟩, ⟨Int.mul_nonneg hm.1 hs.1, Int.mul_le_mul hm.2 hs.2 hs.1 (by omega)⟩, ⟨Int.mul_nonneg hs.1 hs.1, Int.mul_le_mul hs.2 hs.2 hs.1 (by omega)⟩, Int.mul_nonneg hd.1 he.1, Int.mul_le_mul hd.2 he.2 he.1 (by omega)⟩
set_option maxHeartbeats 2000000 in
set_option maxRecDepth 100000 in
theorem law14 (A0 A1 : Option Addr) (c0 c1 : Nat) (a b : List Int) (w : World) (h0 : Kd.C (Kd.int .i64) w A0 a.length a) (h1 : Kd.C (Kd.int .i64) w A1 b.length b) :
    Calls Try.prog 14 #[.slice A0 a.length c0, .slice A1 b.length c1] w fun e w' => e = .returned (.bool true) ∧ Bel w.heap.size w w' := by
  have HA := Aside0.mk h0
  have HL := Aside0.mk h1
  have HB := Bel.refl w
  have m0 := h0.2.1
  have m1 := h1.2.1
  clear h0 h1
  generalize hq : vAlike a b = q
  have HQ := Aside0.mk hq
  clear hq
  cases q with
  | false =>
    go_enter Try.func14, Try.ntmps14
    go_wp2_with fail
    refine (refAlike_calls _ _ _ _ a b _ HA.out HL.out).mono ?_
    rintro e w1 ⟨rfl, rfl⟩
    rw [HQ.out]
    go_wp2_with fail
    refine (vsanity_calls _).mono ?_
    rintro e w1 ⟨rfl, hb⟩
    replace HA := Aside0.mk (Kd.C_below HA.out hb.out)
    replace HL := Aside0.mk (Kd.C_below HL.out hb.out)
    replace HB := HB.trans hb
    clear hb
    go_wp2
    go_ret
    exact ⟨rfl, HB⟩
  | true =>
    obtain ⟨k1, k2, k3⟩ := vAlike_iff.1 HQ.out
    obtain ⟨g1, g0, g4⟩ := vOk_iff.1 k1
    obtain ⟨g2, -, g3⟩ := vOk_iff.1 k2
    have sa : Small a := fun x hx => by have := g1 x hx; omega
    have sb : Small b := fun x hx => by have := g2 x hx; omega
    have HS : Aside0 (Small a ∧ Small b ∧ a.length = b.length) := ⟨sa, sb, k3⟩
    obtain ⟨f1, f2, f3⟩ := vDiff_iff.1 (vsub_diff HQ.out)
    obtain ⟨⟨s1, s2⟩, ⟨e1, e2⟩, ⟨m1', m2'⟩, r1, r2, r3, r4, r5, r6⟩ := norms_of f1 f3
    obtain ⟨-, ⟨p1, p2⟩, -⟩ := norms_of sa g4
    obtain ⟨-, ⟨q1, q2⟩, -⟩ := norms_of sb g3
    obtain ⟨d1, d2⟩ := dot_bd sa sb k3
    have HLn : Aside0 ((vsub a b).length = a.length) := ⟨vsub_length k3⟩
    have hone := dist_of k3
    rw [HLn.out] at r2 r5
    have HSD : Aside0 (Small (vsub a b)) := ⟨f1⟩
    have hl1 : 0 ≤ (a.length : Int) := by omega
    have hl2 : (a.length : Int) ≤ 32 := by omega
    obtain ⟨⟨t1, t2⟩, ⟨t3, t4⟩, ⟨t5, t6⟩, ⟨t7, t8⟩, t9, t10⟩ := prods ⟨hl1, hl2⟩ ⟨m1', m2'⟩ ⟨s1, s2⟩ ⟨e1, e2⟩
    have HK := Aside0.mk r6
    have g4' : a.length ≤ 32 := g4
    have d3 : -128000000 ≤ vdot a b := by omega
    have d4 : vdot a b ≤ 128000000 := by omega
    clear k1 k2 k3 g1 g2 g3 g4 g0 sa sb f1 f2 f3 r6 d1 d2
    generalize hk : vkey 2 a b = k at *
    have HKK := Aside0.mk hk
    clear hk
    generalize hna : vnorm 2 a = na at *
    have HNA := Aside0.mk hna
    clear hna
    generalize hnb : vnorm 2 b = nb at *
    have HNB := Aside0.mk hnb
    clear hnb
    generalize hdt : vdot a b = dt at *
    have HDT := Aside0.mk hdt
    clear hdt
    have b1 : (k == na + nb - 2 * dt) = true := beq_iff_eq.2 hone
    have b2 : (((vsub a b).length : Int) == (a.length : Int)) = true := beq_iff_eq.2 (by rw [HLn.out])
    have b3 : ((vsub a b).length == a.length) = true := beq_iff_eq.2 HLn.out
    have k1 : -1000000000000 ≤ k := by omega
    have k2 : k ≤ 1000000000000 := by omega
    clear hone
    go_enter Try.func14, Try.ntmps14
    go_wp2_with fail
    refine (refAlike_calls _ _ _ _ a b _ HA.out HL.out).mono ?_
    rintro e w1 ⟨rfl, rfl⟩
    rw [HQ.out]
    go_wp2_with fail
    refine (Sub_calls _ _ _ _ a b _ HA.out HL.out HS.out.2.2 HS.out.1 HS.out.2.1 (by omega)).mono ?_
    rintro e w1 ⟨v, rfl, HO, hb⟩
    obtain ⟨AV, cV, rfl, hcV, hC⟩ := HO.reads
    replace HA := Aside0.mk (Kd.C_below HA.out hb.out)
    replace HL := Aside0.mk (Kd.C_below HL.out hb.out)
    replace HB := HB.trans hb
    clear hb
    have V := Aside0.mk hC
    clear hC HO
    have hn : (vsub a b).length ≤ 1000 := by rw [HLn.out]; omega
    generalize hD : vsub a b = D at *
    clear hD
    generalize hs : vnorm 1 D = s at *
    have HN1 := Aside0.mk hs
    clear hs
    generalize hs : vnorm 2 D = sq at *
    have HN2 := Aside0.mk hs
    clear hs
    generalize hs : vnorm 3 D = mx at *
    have HN3 := Aside0.mk hs
    clear hs
    go_wp2_with fail
    refine (Norm_calls (m := 1) (by decide) _ _ D _ V.out HSD.out (by omega)).mono ?_
    rintro e w1 ⟨rfl, hb⟩
    rw [HN1.out]
    replace HA := Aside0.mk (Kd.C_below HA.out hb.out)
    replace HL := Aside0.mk (Kd.C_below HL.out hb.out)
    replace V := Aside0.mk (Kd.C_below V.out hb.out)
    replace HB := HB.trans hb
    clear hb
    go_wp2_with fail
    refine (Norm_calls (m := 2) (by decide) _ _ D _ V.out HSD.out (by omega)).mono ?_
    rintro e w1 ⟨rfl, hb⟩
    rw [HN2.out]
    replace HA := Aside0.mk (Kd.C_below HA.out hb.out)
    replace HL := Aside0.mk (Kd.C_below HL.out hb.out)
    replace V := Aside0.mk (Kd.C_below V.out hb.out)
    replace HB := HB.trans hb
    clear hb
    go_wp2_with fail
    refine (Norm_calls (m := 3) (by decide) _ _ D _ V.out HSD.out (by omega)).mono ?_
    rintro e w1 ⟨rfl, hb⟩
    rw [HN3.out]
    replace HA := Aside0.mk (Kd.C_below HA.out hb.out)
    replace HL := Aside0.mk (Kd.C_below HL.out hb.out)
    replace V := Aside0.mk (Kd.C_below V.out hb.out)
    replace HB := HB.trans hb
    clear hb
    go_wp2_with fail
    refine (Key_calls (m := 2) (by decide) _ _ _ _ a b _ HA.out HL.out HQ.out).mono ?_
    rintro e w1 ⟨rfl, hb⟩
    rw [HKK.out]
    replace HA := Aside0.mk (Kd.C_below HA.out hb.out)
    replace HL := Aside0.mk (Kd.C_below HL.out hb.out)
    replace V := Aside0.mk (Kd.C_below V.out hb.out)
    replace HB := HB.trans hb
    clear hb
    go_wp2_with fail
    refine (Norm_calls (m := 2) (by decide) _ _ a _ HA.out HS.out.1 (by omega)).mono ?_
    rintro e w1 ⟨rfl, hb⟩
    rw [HNA.out]
    replace HA := Aside0.mk (Kd.C_below HA.out hb.out)
    replace HL := Aside0.mk (Kd.C_below HL.out hb.out)
    replace V := Aside0.mk (Kd.C_below V.out hb.out)
    replace HB := HB.trans hb
    clear hb
    go_wp2_with fail
    refine (Norm_calls (m := 2) (by decide) _ _ b _ HL.out HS.out.2.1 (by have := HS.out.2.2; omega)).mono ?_
    rintro e w1 ⟨rfl, hb⟩
    rw [HNB.out]
    replace HA := Aside0.mk (Kd.C_below HA.out hb.out)
    replace HL := Aside0.mk (Kd.C_below HL.out hb.out)
    replace V := Aside0.mk (Kd.C_below V.out hb.out)
    replace HB := HB.trans hb
    clear hb
    go_wp2_with fail
    refine (Dot_calls _ _ _ _ a b _ HA.out HL.out HS.out.2.2 HS.out.1 HS.out.2.1 (by omega)).mono ?_
    rintro e w1 ⟨rfl, rfl⟩
    rw [HDT.out]
    go_wp2_with fail
    refine (vsanity_calls _).mono ?_
    rintro e w1 ⟨rfl, hb⟩
    replace HA := Aside0.mk (Kd.C_below HA.out hb.out)
    replace HL := Aside0.mk (Kd.C_below HL.out hb.out)
    replace V := Aside0.mk (Kd.C_below V.out hb.out)
    replace HB := HB.trans hb
    clear hb
    go_wp2_with fail
    refine (Dot_calls _ _ _ _ D D _ V.out V.out rfl HSD.out HSD.out (by omega)).mono ?_
    rintro e w1 ⟨rfl, rfl⟩
    rw [HK.out]
    go_wp2
    go_ret
    exact ⟨rfl, HB⟩
end Go.Proofs.Ytfngbmcedkncjaa
