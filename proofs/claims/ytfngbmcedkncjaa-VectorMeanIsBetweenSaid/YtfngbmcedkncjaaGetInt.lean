/- wire.GetInt: function 32. -/
import Derived.Test.YtfngbmcedkncjaaBase
namespace Go.Proofs.Ytfngbmcedkncjaa
open Go.RowKit Go.Proofs.YtfngbmcedkncjaaW.PrintWords Go.Proofs.YtfngbmcedkncjaaW.PrintLast Go.Proofs.YtfngbmcedkncjaaW.PrintMore Plain
attribute [local go_sem] max2_int min2_int max_two min_two max_three min_three max_four min_four
set_option linter.unusedVariables false
set_option linter.unusedSimpArgs false

theorem drop_rd (l : List Int) (k : Nat) (h : k < l.length) : l.drop k = rd l k :: l.drop (k + 1) := by
  rw [List.drop_eq_getElem_cons h]
  simp [rd, List.getD_eq_getElem?_getD, h]
theorem rd_mem (l : List Int) (k : Nat) (h : k < l.length) : rd l k ∈ l := by
  have : rd l k = l[k] := by simp [rd, List.getD_eq_getElem?_getD, h]
  rw [this]
  exact List.getElem_mem h
theorem ret3_int {a b c : Int} {t : Int × Int × Int} (h : (a, b, c) = t) : Ending.returned (.tuple #[.int .i64 a, .int .i64 b, .int .i64 c]) = .returned (.tuple #[.int .i64 t.1, .int .i64 t.2.1, .int .i64 t.2.2]) := by rw [← h]
set_option maxHeartbeats 400000 in
set_option maxRecDepth 100000 in
theorem GetInt_calls (A : Option Addr) (c : Nat) (l : List Int) (w : World) (hr : Kd.C (Kd.int .u8) w A l.length l) (hc : l.length ≤ c) (hb : Bytes8 l) :
    Calls Try.prog 32 #[.slice A l.length c] w fun e w' => e = .returned (.tuple #[.int .i64 (dInt l).1, .int .i64 (dInt l).2.1, .int .i64 (dInt l).2.2]) ∧ w = w' := by
  have HR0 := Aside0.mk hr
  have HC0 := Aside0.mk hc
  have HB0 := Aside0.mk hb
  clear hr hc hb
  go_enter Try.func32, Try.ntmps32
  go_wp2
  go_step3
  go_wp2
  go_step3
  go_wp2
  go_loop [5, 6, 11] (fun v5 v6 v11 => ∃ (k : Nat) (z : Int), v11 = .int .i64 k ∧ v5 = .int .u64 z ∧ v6 = .int .i64 0 ∧ k ≤ l.length ∧ k ≤ 9 ∧ 0 ≤ z ∧ Aside0 (z < 2 ^ (7 * k) ∧ fin k z.toNat (l.drop k) = dInt l)) (fun _ _ v11 => l.length - (intOf v11).toNat)
  case atStart => exact ⟨0, 0, rfl, rfl, rfl, Nat.zero_le _, by omega, by omega, ⟨by simp, by simpa using fin_start l⟩⟩
  case round =>
    obtain ⟨k, z, rfl, rfl, rfl, hk, hk9, hz, H⟩ := hrel
    by_cases hlt : k < l.length
    · have hq : (k : Int) < (l.length : Int) := by omega
      obtain ⟨ad, e, hx⟩ := Kd.at_int HR0.out k (by omega) hq
      cases e
      have hb := HB0.out (rd l k) (rd_mem l k hlt)
      have hd := drop_rd l k hlt
      rw [Int.toNat_natCast] at hx
      generalize rd l k = x at *
      have HD := Aside0.mk hd
      clear hd
      go_wp2
      case roundEnd =>
        go_round
        case rel => exact ⟨k + 1, _, by go_num, rfl, rfl, by omega, by omega, (step_ok HD.out rfl hz H.out.1 H.out.2 (by omega) (by omega) hb.2).1, ⟨(step_ok HD.out rfl hz H.out.1 H.out.2 (by omega) (by omega) hb.2).2⟩⟩
        case measure => simp [intOf]; omega
      case roundEnd =>
        go_round
        case rel => exact ⟨k + 1, _, by go_num, rfl, rfl, by omega, by omega, (step_ok HD.out rfl hz H.out.1 H.out.2 (by omega) (by omega) hb.2).1, ⟨(step_ok HD.out rfl hz H.out.1 H.out.2 (by omega) (by omega) hb.2).2⟩⟩
        case measure => simp [intOf]; omega
      all_goals try simp only [Exit.noGoto_ret]
      all_goals go_ret3
      all_goals refine ⟨ret3_int (t := dInt l) ?_, rfl⟩
      · exact end_bad HD.out H.out.2 (by omega)
      · exact end_bad HD.out H.out.2 (by simp at *; omega)
      · obtain rfl : k = 9 := by omega
        exact end_ok (k := 9) HD.out hz H.out.1 H.out.2 (by omega) hb.1 (by omega) (by simp at *; omega)
      · exact end_bad HD.out H.out.2 (by simp at *; omega)
      · exact end_ok HD.out hz H.out.1 H.out.2 (by omega) hb.1 (by omega) (by simp at *; omega)
      · exact end_ok HD.out hz H.out.1 H.out.2 (by omega) hb.1 (by omega) (by omega)
    · go_wp2
      all_goals try simp only [Exit.noGoto_ret]
      all_goals go_ret3
      exact ⟨ret3_int (t := dInt l) (end_nil (by omega) H.out.2), rfl⟩
end Go.Proofs.Ytfngbmcedkncjaa
