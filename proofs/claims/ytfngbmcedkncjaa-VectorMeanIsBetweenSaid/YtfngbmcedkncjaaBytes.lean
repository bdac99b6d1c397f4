/- wire.Bytes (24), wire.length (75) and the reference's Bytes (25). -/
import Derived.Test.YtfngbmcedkncjaaInt
import Derived.Test.YtfngbmcedkncjaaGetInt
namespace Go.Proofs.Ytfngbmcedkncjaa
open Go.RowKit Go.Proofs.YtfngbmcedkncjaaW.PrintWords Go.Proofs.YtfngbmcedkncjaaW.PrintLast Go.Proofs.YtfngbmcedkncjaaW.PrintMore Plain
attribute [local go_sem] max2_int min2_int max_two min_two max_three min_three max_four min_four
set_option linter.unusedVariables false
set_option linter.unusedSimpArgs false

set_option maxHeartbeats 400000 in
set_option maxRecDepth 100000 in
theorem Bytes_calls (s : ByteArray) (hs : s.size + 10 ≤ 140737488355328) (w : World) :
    Calls Try.prog 24 #[.string s] w fun e w' => ∃ v, e = .returned v ∧ Own (Kd.int .u8) 5 w.heap.size w' v (eBytes s) ∧ Bel w.heap.size w w' := by
  have HS := Aside0.mk hs
  have HN : Aside0 (I64 (s.size : Int)) := ⟨by unfold I64; omega⟩
  have HL := Aside0.mk (eInt_length HN.out)
  clear hs
  go_enter Try.func24, Try.ntmps24
  go_wp2_with (first | (go_at_call 22; refine (Int_calls _ HN.out _).mono ?_; rintro e w1 ⟨v, rfl, HO, HB⟩) | (at_builtin; refine ap_str (w := w) HO HB (by have := HL.out; have := HS.out; omega) rfl rfl rfl rfl ?_; intro v1 w2 HO1 HB1; clear HO HB))
  go_ret
  exact ⟨_, rfl, HO1, HB1⟩

set_option maxHeartbeats 400000 in
set_option maxRecDepth 100000 in
theorem refBytes_calls (s : ByteArray) (hs : s.size + 10 ≤ 140737488355328) (w : World) :
    Calls Try.prog 25 #[.string s] w fun e w' => ∃ v, e = .returned v ∧ Own (Kd.int .u8) 5 w.heap.size w' v (eBytes s) ∧ Bel w.heap.size w w' := by
  have HS := Aside0.mk hs
  have HN : Aside0 (I64 (s.size : Int)) := ⟨by unfold I64; omega⟩
  have HL := Aside0.mk (eInt_length HN.out)
  clear hs
  go_enter Try.func25, Try.ntmps25
  go_wp2_with (first | (go_at_call 23; refine (refInt_calls _ HN.out _).mono ?_; rintro e w1 ⟨v, rfl, HO, HB⟩) | (at_builtin; refine ap_str (w := w) HO HB (by have := HL.out; have := HS.out; omega) rfl rfl rfl rfl ?_; intro v1 w2 HO1 HB1; clear HO HB))
  go_ret
  exact ⟨_, rfl, HO1, HB1⟩
end Go.Proofs.Ytfngbmcedkncjaa
