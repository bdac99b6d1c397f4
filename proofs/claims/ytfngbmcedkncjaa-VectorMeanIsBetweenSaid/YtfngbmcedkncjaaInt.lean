/- wire.Int (function 22) and the reference's Int (function 23). -/
import Derived.Test.YtfngbmcedkncjaaBase
namespace Go.Proofs.Ytfngbmcedkncjaa
open Go.RowKit Go.Proofs.YtfngbmcedkncjaaW.PrintWords Go.Proofs.YtfngbmcedkncjaaW.PrintLast Go.Proofs.YtfngbmcedkncjaaW.PrintMore Plain
attribute [local go_sem] max2_int min2_int max_two min_two max_three min_three max_four min_four
set_option linter.unusedVariables false
set_option linter.unusedSimpArgs false

set_option maxHeartbeats 400000 in
set_option maxRecDepth 100000 in
theorem Int_calls (n : Int) (hn : I64 n) (w : World) :
    Calls Try.prog 22 #[.int .i64 n] w fun e w' => ∃ v, e = .returned v ∧ Own (Kd.int .u8) 5 w.heap.size w' v (eInt n) ∧ Bel w.heap.size w w' := by
  have HN := Aside0.mk hn
  have hzz := zz_eq n hn.1 hn.2
  have Hzz := Aside0.mk hzz
  clear hn hzz
  go_enter Try.func22, Try.ntmps22
  go_wp2
  go_loopw [3, 4] (fun v3 v4 wr => ∃ (z : Int) (a : List Int), v3 = .int .u64 z ∧ 0 ≤ z ∧ Own (Kd.int .u8) 5 w.heap.size wr v4 a ∧ Bel w.heap.size w wr ∧ Aside0 (a ++ encZ z.toNat = eInt n)) (fun v3 _ _ => (intOf v3).toNat)
  case atStart =>
    refine ⟨_, [], rfl, ?_, Own.nil _ _ _ _, Bel.refl _, ⟨?_⟩⟩
    · have := Hzz.out; unfold zz at this; rw [this]; omega
    · have := Hzz.out; unfold zz at this; rw [this]; rfl
  case round =>
    obtain ⟨z, a, rfl, hz, HO, HB, H⟩ := hrel
    have HL := Aside0.mk (int_len HN.out H.out)
    by_cases h : 127 < z
    · go_wp2_with (at_builtin; refine ap_one (Kd.int .u8) (w := w) ty_u8 HO HB (by have := HL.out; omega) rfl rfl rfl rfl rfl ?_; intro v1 w1 HO1 HB1; clear HO HB)
      go_roundw
      case rel => exact ⟨_, _, rfl, by omega, HO1, HB1, ⟨int_step h H.out⟩⟩
      case measure => simp [intOf]; omega
    · go_wp2_with (at_builtin; refine ap_one (Kd.int .u8) (w := w) ty_u8 HO HB (by have := HL.out; omega) rfl rfl rfl rfl rfl ?_; intro v1 w1 HO1 HB1; clear HO HB)
      go_ret
      exact ⟨_, rfl, by rw [← int_end hz (by omega) H.out]; exact HO1, HB1⟩

set_option maxHeartbeats 400000 in
set_option maxRecDepth 100000 in
theorem refInt_calls (n : Int) (hn : I64 n) (w : World) :
    Calls Try.prog 23 #[.int .i64 n] w fun e w' => ∃ v, e = .returned v ∧ Own (Kd.int .u8) 5 w.heap.size w' v (eInt n) ∧ Bel w.heap.size w w' := by
  have HN := Aside0.mk hn
  clear hn
  go_enter Try.func23, Try.ntmps23
  go_upto_if 9 with (fail)
  go_cut [3] (fun v3 wc => v3 = .int .u64 (zig n : Int) ∧ w = wc)
  case first =>
    by_cases h : n < 0
    · have h2 := ref_neg HN.out h
      have H2 := Aside0.mk h2
      clear h2
      go_wp2
      go_meet
      case rel => exact ⟨by rw [H2.out], rfl⟩
    · have h2 := ref_pos HN.out h
      have H2 := Aside0.mk h2
      clear h2
      go_wp2
      go_meet
      case rel => exact ⟨by rw [H2.out], rfl⟩
  case rest =>
    obtain ⟨rfl, rfl⟩ := hcut
    go_wp2
    go_loopw [3, 4] (fun v3 v4 wr => ∃ (z : Int) (a : List Int), v3 = .int .u64 z ∧ 0 ≤ z ∧ z < 18446744073709551616 ∧ Own (Kd.int .u8) 5 w.heap.size wr v4 a ∧ Bel w.heap.size w wr ∧ Aside0 (a ++ encZ z.toNat = eInt n)) (fun v3 _ _ => (intOf v3).toNat)
    case atStart => exact ⟨_, [], rfl, by omega, by have := zig_lt n HN.out.1 HN.out.2; omega, Own.nil _ _ _ _, Bel.refl _, ⟨rfl⟩⟩
    case round =>
      obtain ⟨z, a, rfl, hz, hz2, HO, HB, H⟩ := hrel
      have HL := Aside0.mk (int_len HN.out H.out)
      by_cases h : 128 ≤ z
      · go_wp2_with (at_builtin; refine ap_one (Kd.int .u8) (w := w) ty_u8 HO HB (by have := HL.out; omega) rfl rfl rfl rfl rfl ?_; intro v1 w1 HO1 HB1; clear HO HB)
        go_roundw
        case rel => exact ⟨_, _, rfl, by omega, by omega, HO1, HB1, ⟨ref_step h H.out⟩⟩
        case measure => simp [intOf]; omega
      · go_wp2_with (at_builtin; refine ap_one (Kd.int .u8) (w := w) ty_u8 HO HB (by have := HL.out; omega) rfl rfl rfl rfl rfl ?_; intro v1 w1 HO1 HB1; clear HO HB)
        go_ret
        exact ⟨_, rfl, by rw [← int_end hz (by omega) H.out]; exact HO1, HB1⟩
end Go.Proofs.Ytfngbmcedkncjaa
