/- For at most 20 vectors that are alike, Mean is a vector, and lies in each coordinate between the least and the greatest one; it does not depend on the order; of equal vectors it is this one, whatever the input, in whatever memory. -/
import Derived.Test.YtfngbmcedkncjaaRows
import Derived.Test.YtfngbmcedkncjaaRow
import Derived.Test.YtfngbmcedkncjaaHead
import Derived.Test.YtfngbmcedkncjaaVOpn
import Derived.Test.YtfngbmcedkncjaaVRws
namespace Go.Proofs.Ytfngbmcedkncjaa
open Go.RowKit Go.Proofs.YtfngbmcedkncjaaW.PrintWords Go.Proofs.YtfngbmcedkncjaaW.PrintLast Go.Proofs.YtfngbmcedkncjaaW.PrintMore Plain
set_option linter.unusedVariables false
set_option linter.unusedSimpArgs false
theorem Bel.mk' {B : Nat} {w w' : World} (h : Below B w w') : Bel B w w' := ⟨h⟩
theorem same_true (x : List Int) : decide (x = x) = true := by simp
/-- Rows that are all alike. -/
theorem all_rows {l : List (List Int)} (h : vAllB l 20 = true) : Rows32 (rw_ l 0).length l ∧ 0 < (rw_ l 0).length ∧ (rw_ l 0).length ≤ 32 ∧ ∀ v ∈ l, v.length = (rw_ l 0).length ∧ vOk v = true := by
  unfold vAllB at h
  simp only [Bool.and_eq_true, decide_eq_true_iff] at h
  obtain ⟨h1, h2, h3⟩ := h
  unfold alls at h1
  rw [List.all_eq_true] at h1
  have h4 := vAlike_iff.1 (h1 _ (row_mem (show 0 < l.length by omega)))
  obtain ⟨h5, h6, h7⟩ := vOk_iff.1 h4.1
  have hk : ∀ v ∈ l, v.length = (rw_ l 0).length ∧ vOk v = true := fun v hv => by
    obtain ⟨k1, k2, k3⟩ := vAlike_iff.1 (h1 v hv)
    exact ⟨k3.symm, k2⟩
  exact ⟨⟨⟨by omega, by omega⟩, by omega, fun v hv => ⟨(hk v hv).1, (vOk_iff.1 (hk v hv).2).1⟩⟩, by omega, h7, hk⟩
theorem mean_alike {l : List (List Int)} (h : vAllB l 20 = true) : vAlike (vmean (rw_ l 0).length l) (rw_ l 0) = true := by
  obtain ⟨h1, h2, h3, h4⟩ := all_rows h
  exact vAlike_iff.2 ⟨vmean_ok h1.1.1 ⟨h2, h3⟩ h4, (h4 _ (row_mem h1.1.1)).2, vmean_length _ _⟩
theorem rows_turn {d k : Nat} {l : List (List Int)} (h : Rows32 d l) : Rows32 d (l.drop k ++ l.take k) := by
  refine ⟨?_, h.2.1, fun v hv => ?_⟩
  · have e : (l.drop k ++ l.take k).length = l.length := by simp; omega
    rw [e]; exact h.1
  · rw [List.mem_append] at hv
    rcases hv with hv | hv
    · exact h.2.2 v (List.mem_of_mem_drop hv)
    · exact h.2.2 v (List.mem_of_mem_take hv)
theorem rows_three {d : Nat} {l : List (List Int)} {x : List Int} (h : Rows32 d l) (hx : x ∈ l) : Rows32 d [x, x, x] :=
  ⟨⟨by simp, by simp⟩, h.2.1, fun v hv => by simp at hv; subst hv; exact h.2.2 _ hx⟩
theorem low_step {l : List (List Int)} {i j : Nat} {t T : Int} (h : lowF i t (l.drop j) = T) (hj : j < l.length) : lowF i (min t (at_ (rw_ l j) i)) (l.drop (j + 1)) = T := by
  rw [row_drop l j hj] at h
  exact h
theorem high_step {l : List (List Int)} {i j : Nat} {t T : Int} (h : highF i t (l.drop j) = T) (hj : j < l.length) : highF i (max t (at_ (rw_ l j) i)) (l.drop (j + 1)) = T := by
  rw [row_drop l j hj] at h
  exact h
theorem low_end {l : List (List Int)} {i j : Nat} {t T : Int} (h : lowF i t (l.drop j) = T) (hj : ¬ j < l.length) : t = T := by
  rw [List.drop_eq_nil_of_le (by omega)] at h
  exact h
theorem high_end {l : List (List Int)} {i j : Nat} {t T : Int} (h : highF i t (l.drop j) = T) (hj : ¬ j < l.length) : t = T := by
  rw [List.drop_eq_nil_of_le (by omega)] at h
  exact h
theorem mean_between {d i : Nat} {l : List (List Int)} (h : Rows32 d l) (hi : i < d) (n : Int) : lowF i n l ≤ at_ (vmean d l) i ∧ at_ (vmean d l) i ≤ highF i n l := by
  rw [at_vmean hi]
  exact ⟨mean_ge h.1.1 (lowF_le i l n).2, mean_le h.1.1 (highF_ge i l n).2⟩
theorem C_rows3 {W : World} {A : Option Addr} {c : Nat} {x : List Int} (t : TypeId) (hc : x.length ≤ c) (h : Kd.C (Kd.int .i64) W A x.length x) :
    Kd.C rowK (W.alloc (.cells #[.slice A x.length c, .slice A x.length c, .slice A x.length c] t)) (some ⟨W.heap.size, 0, none⟩) [x, x, x].length [x, x, x] := by
  refine C_rows [.slice A x.length c, .slice A x.length c, .slice A x.length c] [x, x, x] t W (by simp) fun j z hj => ?_
  match j with
  | 0 => simp at hj; subst hj; exact ⟨A, c, rfl, hc, h⟩
  | 1 => simp at hj; subst hj; exact ⟨A, c, rfl, hc, h⟩
  | 2 => simp at hj; subst hj; exact ⟨A, c, rfl, hc, h⟩
  | j + 3 => simp at hj
theorem Mean_lit3 {d : Nat} {x : List Int} {A : Option Addr} {c : Nat} {W : World} (hd0 : 0 < d) (hx : x.length = d) (hd : Rows32 d [x, x, x]) (hc : x.length ≤ c) (h : Kd.C (Kd.int .i64) W A x.length x) :
    Calls Try.prog 65 #[.slice (some ⟨W.heap.size, 0, none⟩) 3 3] (W.alloc (.cells #[.slice A x.length c, .slice A x.length c, .slice A x.length c] 22)) fun e w' => ∃ v, e = .returned v ∧ Own (Kd.int .i64) 3 W.heap.size w' v x ∧ Bel W.heap.size W w' := by
  refine (Mean_calls (some ⟨W.heap.size, 0, none⟩) 3 [x, x, x] d _ (C_rows3 22 hc h) hd hd0).mono ?_
  rintro e w' ⟨v, rfl, ho, hb⟩
  subst hx
  rw [vmean_three] at ho
  exact ⟨v, rfl, ho.lower (by simp), ((Bel.refl W).alloc _).trans hb⟩
attribute [local go_sem] max2_int min2_int max_two min_two max_three min_three max_four min_four
set_option maxHeartbeats 4000000 in
set_option maxRecDepth 100000 in
theorem law15 (A0 : Option Addr) (c0 : Nat) (l : List (List Int)) (n : Int) (w : World) (h0 : Kd.C rowK w A0 l.length l) (hc0 : l.length ≤ c0) (hn : 0 ≤ n ∧ n ≤ 255) :
    Calls Try.prog 15 #[.slice A0 l.length c0, .int .u8 n] w fun e w' => e = .returned (.bool true) ∧ Bel w.heap.size w w' := by
  have HA := Aside0.mk h0
  have HB := Bel.refl w
  have HC0 := Aside0.mk hc0
  have m0 := h0.2.1
  obtain ⟨n1, n2⟩ := hn
  clear h0 hc0
  generalize hall : vAllB l 20 = q
  have HALL := Aside0.mk hall
  clear hall
  cases q with
  | false =>
    go_enter Try.func15, Try.ntmps15
    go_wp2_with fail
    refine (refAll_calls _ _ l 20 _ HA.out).mono ?_
    rintro e w1 ⟨rfl, hd⟩
    rw [HALL.out]
    have hb := Bel.mk' hd.below
    clear hd
    replace HA := Aside0.mk (Kd.C_below HA.out hb.out)
    replace HB := HB.trans hb
    clear hb
    go_wp2_with fail
    refine (vsanity_calls _).mono ?_
    rintro e w1 ⟨rfl, hb⟩
    replace HA := Aside0.mk (Kd.C_below HA.out hb.out)
    replace HB := HB.trans hb
    clear hb
    go_wp2
    go_ret
    exact ⟨rfl, HB⟩
  | true =>
    obtain ⟨r1, r2, r3, r4⟩ := all_rows HALL.out
    have HAL := Aside0.mk (mean_alike HALL.out)
    have hl1 : 1 ≤ l.length := r1.1.1
    have hl2 : l.length ≤ 20 := r1.1.2
    have HR := Aside0.mk r1
    have HLn := Aside0.mk (fun v hv => (r4 v hv).1)
    clear r1 r4
    generalize hd : (rw_ l 0).length = d at *
    have HD := Aside0.mk hd
    clear hd
    have hk0 := Int.emod_nonneg n (show (l.length : Int) ≠ 0 by omega)
    have hk1 := Int.emod_lt_of_pos n (show (0 : Int) < (l.length : Int) by omega)
    obtain ⟨k, hk⟩ := Int.eq_ofNat_of_zero_le hk0
    rw [hk] at hk1
    have hkl : k < l.length := by omega
    have hmod : n % (l.length : Int) = (k : Int) := hk
    have hmod2 : n.tmod (l.length : Int) = (k : Int) := by rw [Int.tmod_eq_emod_of_nonneg n1]; exact hk
    clear hk hk0 hk1
    go_enter Try.func15, Try.ntmps15
    go_wp2_with fail
    refine (refAll_calls _ _ l 20 _ HA.out).mono ?_
    rintro e w1 ⟨rfl, hd⟩
    rw [HALL.out]
    have hb := Bel.mk' hd.below
    clear hd
    replace HA := Aside0.mk (Kd.C_below HA.out hb.out)
    replace HB := HB.trans hb
    clear hb
    go_upto_region 3 with (fail)
    have hne : ¬ l = [] := fun e => by subst e; simp at hkl
    have hwn : IntKind.i64.wrap n = n := wrap_in (by omega) (by omega)
    go_region_held3 (fun W => True) (first | exact trivial) (first | (go_at_call 65; refine (Mean_calls _ _ l d _ (Kd.C_drew HA.out) HR.out r2).mono ?_; rintro e w5 ⟨v5, rfl, HO5, hb⟩; replace HA := Aside0.mk (Kd.C_below (Kd.C_drew HA.out) hb.out); replace HB := HB.drew.trans hb; obtain ⟨Am, cm_, rfl, hcm, hC⟩ := HO5.reads; have HM := Aside0.mk hC; clear hC HO5 hb))
    clear hmod hmod2 hwn hne
    obtain ⟨ps, hps, hCp, hqs⟩ := heads HA.out
    have HPS := Aside0.mk hps
    have HQS := Aside0.mk hqs
    have hlen : ps.length = l.length := by rw [← hps, List.length_map]
    have hz1 := Kd.C_drop (m := k) hCp (by rw [List.length_map]; omega) (by rw [List.length_map, hlen]; exact HC0.out)
    have hz2 := Kd.C_take (m := k) hCp (by rw [List.length_map]; omega)
    rw [show ((ps.map Prod.fst).drop k).length = l.length - k by rw [List.length_drop, List.length_map, hlen]] at hz1
    rw [show ((ps.map Prod.fst).take k).length = k by rw [List.length_take, List.length_map, hlen]; omega] at hz2
    obtain ⟨i0, hi0, hzz⟩ := Option.map_eq_some_iff.1 info22
    simp only [Prod.mk.injEq] at hzz
    have s1 := Go.Proofs.YtfngbmcedkncjaaW.PrintWords.cut_from (P := Try.prog) 62 22 .i64 Try.underlying62 hi0 1 hzz.2.1 A0 l.length c0 (k : Int) (by omega) (by omega)
    have s2 := Go.Proofs.YtfngbmcedkncjaaW.PrintWords.cut_to (P := Try.prog) 62 22 .i64 Try.underlying62 hi0 A0 l.length c0 (k : Int) (by omega) (by omega) HC0.out
    rw [Int.toNat_natCast] at s1 s2
    change Kd.C hdrK w5 (if c0 = k then A0 else A0.map (·.add (k * 1))) (l.length - k) ((ps.map Prod.fst).drop k) at hz1
    generalize hA7 : (if c0 = k then A0 else A0.map (·.add (k * 1))) = A7 at *
    have HH1 := Aside0.mk hz1
    have HH2 := Aside0.mk hz2
    have HLN := Aside0.mk hlen
    clear hz1 hz2 hCp hqs hps hlen hzz hi0 hA7
    go_wp2
    go_region_held3 (fun W => True) (first | exact trivial) (first | (refine ap_rows_step hdr (w := w5) ty_row (own_emptyH w5).drew ((Bel.refl w5).alloc _).drew (Kd.C_drew (Kd.C_alloc HH1.out _)) (by simp only [List.length_nil]; omega) (by rfl) (by rfl) (by rfl) (by rfl) ?_; intro v6 w6 HO6 HB6) | (refine ap_rows_step hdr (w := w5) ty_row HO6 HB6 (Kd.C_below HH2.out HB6.out) (by rw [List.nil_append, List.length_drop, List.length_map, HLN.out]; omega) (by rfl) (by rfl) (by rfl) (by rfl) ?_; intro v7 w7 HO7 HB7))
    have hb := HB7
    replace HA := Aside0.mk (Kd.C_below HA.out hb.out)
    replace HM := Aside0.mk (Kd.C_below HM.out hb.out)
    replace HB := HB.trans hb
    have HQ7 : Aside0 (∀ p ∈ ps, HQ w7 p) := ⟨fun p hp => (HQS.out p hp).below hb.out⟩
    have e7 : [] ++ (ps.map Prod.fst).drop k ++ (ps.map Prod.fst).take k = (ps.drop k ++ ps.take k).map Prod.fst := by simp [List.map_drop, List.map_take]
    rw [e7] at HO7
    have e6 : (ps.drop k ++ ps.take k).map Prod.snd = l.drop k ++ l.take k := by rw [List.map_append, List.map_drop, List.map_take, HPS.out]
    obtain ⟨At, ct, e9, -, hCt⟩ := HO7.reads
    have hT := unheads hCt (fun p hp => by rw [List.mem_append] at hp; rcases hp with hp | hp; exact HQ7.out p (List.mem_of_mem_drop hp); exact HQ7.out p (List.mem_of_mem_take hp))
    rw [show ((ps.drop k ++ ps.take k).map Prod.fst).length = ((ps.drop k ++ ps.take k).map Prod.snd).length by simp] at e9
    rw [e6] at e9 hT
    have HT := Aside0.mk hT
    have HRT := Aside0.mk (rows_turn (k := k) HR.out)
    have HVT := Aside0.mk (vmean_turn d k l)
    generalize l.drop k ++ l.take k = L at *
    clear hb HB7 HB6 HO7 HO6 hCt hT e7 e6 HQ7 HQS HH1 HH2 HPS HLN
    subst e9
    obtain ⟨ad, A1, c1, e, q1, f0, x0⟩ := row_at HA.out 0 (by omega)
    cases e
    rw [Addr.add_zero'] at f0
    obtain ⟨ad2, A2, c2, e, q2, f1, x1⟩ := row_at HA.out k hkl
    cases e
    have F0 := Aside0.mk f0
    have F1 := Aside0.mk f1
    have X0 := Aside0.mk x0
    have X1 := Aside0.mk x1
    have Q2 := Aside0.mk q2
    have HX3 := Aside0.mk (rows_three HR.out (row_mem hkl))
    have HXL := Aside0.mk (HR.out.2.2 _ (row_mem hkl)).1
    have hq0 : 0 < l.length := by omega
    have hqk : (k : Int) < (l.length : Int) := by omega
    clear f0 f1 x0 x1 q1 q2
    generalize hx0 : rw_ l 0 = y0 at *
    generalize hx1 : rw_ l k = y1 at *
    have HY0 := Aside0.mk hx0
    clear hx0 hx1
    go_wp2
    go_region_held3 (fun W => W.cell? ad = some (.slice A1 y0.length c1) ∧ W.cell? (ad.add k) = some (.slice A2 y1.length c2))
      (first | exact ⟨F0.out, F1.out⟩ | exact ⟨pw_cell_below ((Bel.refl _).alloc _).out F0.out, pw_cell_below ((Bel.refl _).alloc _).out F1.out⟩)
      (first | (go_at_call 49; refine (Alike_calls _ _ _ _ (vmean d l) y0 _ (Kd.C_drew HM.out) (Kd.C_drew X0.out)).mono ?_; rintro e w8 ⟨rfl, rfl⟩; rw [HAL.out]; replace HA := Aside0.mk (Kd.C_drew HA.out); replace HM := Aside0.mk (Kd.C_drew HM.out); replace X0 := Aside0.mk (Kd.C_drew X0.out); replace X1 := Aside0.mk (Kd.C_drew X1.out); replace HT := Aside0.mk (Kd.C_drew HT.out); replace F0 : Aside0 (w7.drew.cell? ad = some (.slice A1 y0.length c1)) := ⟨F0.out⟩; replace F1 : Aside0 (w7.drew.cell? (ad.add k) = some (.slice A2 y1.length c2)) := ⟨F1.out⟩; replace HB := HB.drew) | (go_at_call_of 65 ct; refine (Mean_calls _ _ L d _ HT.out HRT.out r2).mono ?_; rintro e w8 ⟨v8, rfl, HO8, hb⟩; rw [HVT.out] at HO8; obtain ⟨A8, c8, rfl, -, hC⟩ := HO8.reads; replace HA := Aside0.mk (Kd.C_below HA.out hb.out); replace HM := Aside0.mk (Kd.C_below HM.out hb.out); replace X0 := Aside0.mk (Kd.C_below X0.out hb.out); replace X1 := Aside0.mk (Kd.C_below X1.out hb.out); replace HT := Aside0.mk (Kd.C_below HT.out hb.out); replace F0 := Aside0.mk (pw_cell_below hb.out F0.out); replace F1 := Aside0.mk (pw_cell_below hb.out F1.out); replace HB := HB.trans hb; have HM8 := Aside0.mk hC; clear hC HO8 hb) | (go_at_call_of 54 cm_; refine (refSame_calls _ _ _ _ (vmean d l) (vmean d l) _ HM.out HM8.out).mono ?_; rintro e w9 ⟨rfl, hd⟩; rw [same_true]; have hb := Bel.mk' hd.below; replace HA := Aside0.mk (Kd.C_below HA.out hb.out); replace HM := Aside0.mk (Kd.C_below HM.out hb.out); replace X0 := Aside0.mk (Kd.C_below X0.out hb.out); replace X1 := Aside0.mk (Kd.C_below X1.out hb.out); replace HT := Aside0.mk (Kd.C_below HT.out hb.out); replace F0 := Aside0.mk (pw_cell_below hb.out F0.out); replace F1 := Aside0.mk (pw_cell_below hb.out F1.out); replace HB := HB.trans hb; clear hb hd HM8) | (go_at_call 65; refine (Mean_lit3 r2 HXL.out HX3.out Q2.out X1.out).mono ?_; rintro e w10 ⟨v10, rfl, HO10, hb⟩; obtain ⟨A10, c10, rfl, -, hC⟩ := HO10.reads; replace HA := Aside0.mk (Kd.C_below HA.out hb.out); replace HM := Aside0.mk (Kd.C_below HM.out hb.out); replace X0 := Aside0.mk (Kd.C_below X0.out hb.out); replace X1 := Aside0.mk (Kd.C_below X1.out hb.out); replace HT := Aside0.mk (Kd.C_below HT.out hb.out); replace F0 := Aside0.mk (pw_cell_below hb.out F0.out); replace F1 := Aside0.mk (pw_cell_below hb.out F1.out); replace HB := HB.trans hb; have HM10 := Aside0.mk hC; clear hC HO10 hb) | (go_at_call 54; refine (refSame_calls _ _ _ _ y1 y1 _ HM10.out X1.out).mono ?_; rintro e w11 ⟨rfl, hd⟩; rw [same_true]; have hb := Bel.mk' hd.below; replace HA := Aside0.mk (Kd.C_below HA.out hb.out); replace HM := Aside0.mk (Kd.C_below HM.out hb.out); replace X0 := Aside0.mk (Kd.C_below X0.out hb.out); replace X1 := Aside0.mk (Kd.C_below X1.out hb.out); replace HT := Aside0.mk (Kd.C_below HT.out hb.out); replace F0 := Aside0.mk (pw_cell_below hb.out F0.out); replace F1 := Aside0.mk (pw_cell_below hb.out F1.out); replace HB := HB.trans hb; clear hb hd HM10))
    clear F0 F1 X0 X1 HT HX3 HXL Q2 HRT HVT hqk hkl
    have hML : (vmean d l).length = d := vmean_length d l
    have HML := Aside0.mk hML
    have hdm : (vmean d l).length ≤ 9223372036854775807 := by omega
    clear hML
    have HBT := Aside0.mk (fun i (hi : i < d) (z : Int) => mean_between HR.out hi z)
    have HAT : Aside0 (∀ i : Nat, rd (vmean d l) i = at_ (vmean d l) i) := ⟨fun i => rfl⟩
    generalize hMM : vmean d l = M at *
    clear hMM
    go_wp2
    go_loopw [70] (fun v70 wr => ∃ i : Nat, v70 = .int .i64 i ∧ i ≤ M.length ∧ Aside0 (Kd.C rowK wr (some ad) l.length l) ∧ Aside0 (Kd.C (Kd.int .i64) wr Am M.length M) ∧ Bel w.heap.size w wr) (fun v70 _ => M.length - (intOf v70).toNat)
    case atStart => exact ⟨0, rfl, by omega, HA, HM, HB⟩
    case round =>
      clear HA HM HB
      obtain ⟨i, rfl, hi, HA, HM, HB⟩ := hrel
      by_cases hlt : i < M.length
      · have hid : i < d := by have := HML.out; omega
        obtain ⟨ad', A3, c3, e, q1, f0, x0⟩ := row_at HA.out 0 hq0
        cases e
        rw [Addr.add_zero', HY0.out] at f0
        rw [HY0.out] at x0
        have hyl : y0.length = d := by rw [← HY0.out]; exact HLn.out _ (row_mem hq0)
        have HYL := Aside0.mk hyl
        have hqi : (i : Int) < (y0.length : Int) := by omega
        obtain ⟨ad3, e, hz⟩ := Kd.at_int x0 i (by omega) hqi
        cases e
        rw [Int.toNat_natCast, rd_at_] at hz
        have HBTi := Aside0.mk (HBT.out i hid (at_ y0 i))
        clear x0 q1 hyl
        generalize at_ y0 i = z at *
        go_wp2
        go_quiet (fail)
        have hb := Bel.mk' ((Drawn0.refl wr).step nq).below
        replace HA := Aside0.mk (Kd.C_below HA.out hb.out)
        replace HM := Aside0.mk (Kd.C_below HM.out hb.out)
        replace HB := HB.trans hb
        clear hb f0 hz
        generalize wr.drewN nq = wo at *
        go_wp2
        go_loopw [9, 10, 87] (fun v9 v10 v87 wi => ∃ (j : Nat) (lo hi : Int), v9 = .int .i64 lo ∧ v10 = .int .i64 hi ∧ v87 = .int .i64 j ∧ j ≤ l.length ∧ Aside0 (lowF i lo (l.drop j) = lowF i z l) ∧ Aside0 (highF i hi (l.drop j) = highF i z l) ∧ Aside0 (Kd.C rowK wi (some ad) l.length l) ∧ Aside0 (Kd.C (Kd.int .i64) wi Am M.length M) ∧ Bel w.heap.size w wi) (fun _ _ v87 _ => l.length - (intOf v87).toNat)
        case atStart => exact ⟨0, z, z, rfl, rfl, rfl, by omega, ⟨rfl⟩, ⟨rfl⟩, HA, HM, HB⟩
        case round =>
          clear HA HM HB
          obtain ⟨j, lo, hi', rfl, rfl, rfl, hj, H1, H2, HA, HM, HB⟩ := hrel
          by_cases hjl : j < l.length
          · obtain ⟨ad', A4, c4, e, q1, f0, x0⟩ := row_at HA.out j hjl
            cases e
            have hjd := HLn.out _ (row_mem hjl)
            have hqi2 : (i : Int) < ((rw_ l j).length : Int) := by omega
            obtain ⟨ad4, e, hz⟩ := Kd.at_int x0 i (by omega) hqi2
            cases e
            rw [Int.toNat_natCast, rd_at_] at hz
            have S1 := Aside0.mk (low_step H1.out hjl)
            have S2 := Aside0.mk (high_step H2.out hjl)
            have HJD := Aside0.mk hjd
            clear x0 q1 H1 H2 hjd
            generalize at_ (rw_ l j) i = x at *
            generalize (rw_ l j).length = dj at *
            by_cases g1 : x < lo
            · rw [show min lo x = x by omega] at S1
              by_cases g2 : hi' < x
              · rw [show max hi' x = x by omega] at S2
                go_wp2
                go_quiet (fail)
                go_wp2
                go_roundw
                case rel => exact ⟨j + 1, _, _, rfl, rfl, by go_num, by omega, S1, S2, ⟨Kd.C_drewN HA.out _⟩, ⟨Kd.C_drewN HM.out _⟩, HB.drewN _⟩
                case measure => simp [intOf]; omega
              · rw [show max hi' x = hi' by omega] at S2
                go_wp2
                go_quiet (fail)
                go_wp2
                go_roundw
                case rel => exact ⟨j + 1, _, _, rfl, rfl, by go_num, by omega, S1, S2, ⟨Kd.C_drewN HA.out _⟩, ⟨Kd.C_drewN HM.out _⟩, HB.drewN _⟩
                case measure => simp [intOf]; omega
            · rw [show min lo x = lo by omega] at S1
              by_cases g2 : hi' < x
              · rw [show max hi' x = x by omega] at S2
                go_wp2
                go_quiet (fail)
                go_wp2
                go_roundw
                case rel => exact ⟨j + 1, _, _, rfl, rfl, by go_num, by omega, S1, S2, ⟨Kd.C_drewN HA.out _⟩, ⟨Kd.C_drewN HM.out _⟩, HB.drewN _⟩
                case measure => simp [intOf]; omega
              · rw [show max hi' x = hi' by omega] at S2
                go_wp2
                go_quiet (fail)
                go_wp2
                go_roundw
                case rel => exact ⟨j + 1, _, _, rfl, rfl, by go_num, by omega, S1, S2, ⟨Kd.C_drewN HA.out _⟩, ⟨Kd.C_drewN HM.out _⟩, HB.drewN _⟩
                case measure => simp [intOf]; omega
          · have L1 := low_end H1.out hjl
            have L2 := high_end H2.out hjl
            obtain ⟨b1, b2⟩ := HBTi.out
            rw [← L1] at b1
            rw [← L2] at b2
            have hqm : (i : Int) < (M.length : Int) := by omega
            obtain ⟨ad5, e, hm5⟩ := Kd.at_int HM.out i (by omega) hqm
            cases e
            rw [Int.toNat_natCast, HAT.out] at hm5
            clear L1 L2 H1 H2 HBTi
            generalize at_ M i = mi at *
            go_wp2
            go_roundw
            case rel => exact ⟨i + 1, by go_num, by omega, HA, HM, HB⟩
            case measure => simp [intOf]; omega
      · go_wp2_with fail
        refine (vsanity_calls _).mono ?_
        rintro e w1 ⟨rfl, hb⟩
        replace HA := Aside0.mk (Kd.C_below HA.out hb.out)
        replace HB := HB.trans hb
        clear hb
        go_wp2
        go_ret
        exact ⟨rfl, HB⟩
end Go.Proofs.Ytfngbmcedkncjaa
namespace Go.Proofs.Ytfngbmcedkncjaa.vectorMeanIsBetween
open Go.ChangeShapes Go.WideShapes Go.ChangeAt Go.RowKit Plain
open Go.ChangeMaps (open_string shut_string)
set_option linter.unusedVariables false

set_option maxRecDepth 100000 in
theorem lifted (os : Os) (started : os.Started) (H : Type) (enc : TypeId × Value → H) :
    ReturnsInHanded {} Try.checked os 15 .any (Rows.vectorMeanIsBetweenSpec.pre6 enc Try.prog Try.f15 Rows.vectorMeanIsBetweenRow.domain false) (Rows.vectorMeanIsBetweenSpec.post enc Try.prog Try.f15 false true false false) := by
  refine returnsInHanded_of_change (C := Try.checked) own started (by kernel_rfl) Try.func15
    (ChangeSpec.witness6 (enc := enc) (C := Try.checked) false ⟨#[], #[.slice none 0 0, .int .u8 0], []⟩ 8 (by kernel_rfl) (by kernel_rfl) (by kernel_rfl) (by kernel_rfl)) ?_
  intro W base args ds gs before hval0 hW _ _
  have hval : ∀ (j : Nat) t v, Try.f15.params[j]? = some t → args[j]? = some v → Value.okWide Try.prog W .any base t v := hval0
  have hW' := hW
  obtain ⟨p, q, hA0, hV, rfl, hfz, hnd⟩ := hW
  have hA : DataW.TrodAll enc Try.prog W 0 (fun _ => true) true Try.f15.params.toList args.toList ds p := hA0
  rw [Try.params15] at hA hval
  obtain ⟨v0, vs0, d0, ds0, p0, q0, hargs, rfl, rfl, h0, r0⟩ := trodAll_cons hA
  obtain ⟨v1, vs1, d1, ds1, p1, q1, rfl, rfl, rfl, h1, r1⟩ := trodAll_cons r0
  obtain ⟨rfl, rfl, rfl⟩ := trodAll_nil r1
  obtain rfl : args = #[v0, v1] := by cases args; simp_all
  obtain ⟨rfl, rfl⟩ := trodVars_none hV
  obtain ⟨a0, len0, cap0, rfl⟩ := okWide_slice Try.underlying62 (hval 0 62 v0 rfl rfl)
  have lt0 : ∀ x ∈ p0, x.block < W.heap.size := by obtain ⟨m, hm⟩ := h0; exact DataW.trod_lt m _ _ _ hm
  obtain ⟨l0, e0, hC0, hc0, hw0⟩ := view_rows h0
  subst e0
  obtain ⟨a1, rfl, rfl, rfl, w1⟩ := open_int Try.underlying5 (hval 1 5 v1 rfl rfl) h1
  clear hA0 hval0
  have hwalk : Calls Try.prog 15 #[.slice a0 l0.length cap0, .int .u8 a1] W fun e w' => e = .returned (.bool true) ∧ Below W.heap.size W w' := by
    have hn : 0 ≤ a1 ∧ a1 ≤ 255 := by
      have h := w1
      simp [Lit.wf, IntKind.min, IntKind.max, IntKind.signed, IntKind.bits] at h
      omega
    exact (law15 a0 cap0 l0 a1 W hC0 hc0 hn).mono fun e w' h => ⟨h.1, h.2.out⟩
  refine hwalk.mono fun e W' ⟨he, bel⟩ => ?_
  subst he
  exact ⟨_, rfl, _, _, _, [], _, [], hW', trodAll_mk1 (shut_bool Try.underlying4 _), (trodAll_cons_mk (Below.trod laidOut (by kernel_rfl) (of_decide_eq_true (by kernel_rfl)) h0 bel lt0) (trodAll_cons_mk (shut_int Try.underlying5 w1) trodAll_mk0)), rfl, bel.frame _, fun h => by cases h⟩

theorem rest_facts : restFacts Try.prog 15 Try.f15 Rows.vectorMeanIsBetweenSpec Rows.vectorMeanIsBetweenRow = true := by kernel_rfl
theorem closed : joinedFacts Try.prog 15 Try.f15 Rows.vectorMeanIsBetweenSpec Rows.vectorMeanIsBetweenRow = true := closed_of head_enter head_lifts head_make rest_facts rfl rfl

theorem over : Rows.vectorMeanIsBetweenRow.holds Try.pinned (OpenSpec.ofChange Rows.vectorMeanIsBetweenSpec) :=
  OpenClaim.holds_of_wide 15 Try.f15 rfl rfl rfl rfl rfl rfl rfl ⟨rfl, rfl, rfl, rfl, rfl⟩ rfl rfl rfl rfl rfl (by kernel_rfl) Try.func15 closed
    (of_decide_eq_true (by kernel_rfl)) (by unfold Func.isWrapper; first | (rw [if_pos (by decide +kernel)]; kernel_rfl) | (rw [if_neg (by decide +kernel)]; exact ⟨rfl, rfl⟩))
    (fun os started H enc _ => lifted os started H enc)

end Go.Proofs.Ytfngbmcedkncjaa.vectorMeanIsBetween
namespace Go.Proofs.Ytfngbmcedkncjaa
/-- The statement. -/
theorem vectorMeanIsBetween_holds : Rows.VectorMeanIsBetweenSaid := vectorMeanIsBetween.over
#print axioms vectorMeanIsBetween_holds
end Go.Proofs.Ytfngbmcedkncjaa
