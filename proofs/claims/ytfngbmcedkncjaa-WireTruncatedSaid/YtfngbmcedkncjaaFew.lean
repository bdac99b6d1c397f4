/- few (19). -/
import Derived.Test.YtfngbmcedkncjaaOpen
import Derived.Test.YtfngbmcedkncjaaList
namespace Go.Proofs.Ytfngbmcedkncjaa
open Go.RowKit Go.Proofs.YtfngbmcedkncjaaW.PrintWords Go.Proofs.YtfngbmcedkncjaaW.PrintLast Go.Proofs.YtfngbmcedkncjaaW.PrintMore Plain
set_option linter.unusedVariables false
set_option linter.unusedSimpArgs false
theorem strBytes_append (a b : List ByteArray) : strBytes (a ++ b) = strBytes a + strBytes b := by simp [strBytes]
theorem strBytes_step (l : List ByteArray) (k : Nat) (x : ByteArray) (h : l[k]? = some x) : strBytes (l.take (k + 1)) = strBytes (l.take k) + x.size := by
  rw [List.take_add_one, h, strBytes_append]
  simp [strBytes]
theorem strBytes_le (l : List ByteArray) (k : Nat) : strBytes (l.take k) ≤ strBytes l := by
  have h := strBytes_append (l.take k) (l.drop k)
  rw [List.take_append_drop] at h
  omega
set_option maxHeartbeats 400000 in
set_option maxRecDepth 100000 in
theorem few_calls (A : Option Addr) (c : Nat) (l : List ByteArray) (w : World) (hr : Kd.C Kd.string w A l.length l) (hl : l.length + strBytes l ≤ 9223372036854775807) :
    Calls Try.prog 19 #[.slice A l.length c] w fun e w' => e = .returned (.bool (decide (l.length + strBytes l ≤ 2000))) ∧ w = w' := by
  have HR := Aside0.mk hr
  have HL := Aside0.mk hl
  have hm := hr.2.1
  clear hr hl
  go_enter Try.func19, Try.ntmps19
  go_wp2
  go_loop [3, 10] (fun v3 v10 => ∃ (k s : Nat), v10 = .int .i64 k ∧ v3 = .int .i64 s ∧ k ≤ l.length ∧ Aside0 (s = l.length + strBytes (l.take k))) (fun _ v10 => l.length - (intOf v10).toNat)
  case atStart => exact ⟨0, l.length, rfl, rfl, Nat.zero_le _, ⟨by simp [strBytes]⟩⟩
  case round =>
    obtain ⟨k, s, rfl, rfl, hk, HS⟩ := hrel
    by_cases hlt : k < l.length
    · have hq : (k : Int) < (l.length : Int) := by omega
      obtain ⟨ad, e, hx⟩ := Kd.at_string HR.out k (by omega) hq
      cases e
      have HT := Aside0.mk (strBytes_step l k _ (rdO_at ByteArray.empty l k hlt))
      have HE := Aside0.mk (strBytes_le l (k + 1))
      rw [Int.toNat_natCast] at hx
      generalize rdOf ByteArray.empty l k = x at *
      have hsum : s + x.size ≤ 9223372036854775807 := by have := HT.out; have := HE.out; have := HS.out; have := HL.out; omega
      go_wp2
      case roundEnd =>
        go_round
        case rel => exact ⟨k + 1, s + x.size, by go_num, by go_num, by omega, ⟨by rw [HT.out, HS.out]; omega⟩⟩
        case measure => simp [intOf]; omega
    · obtain rfl : k = l.length := by omega
      have hs : s = l.length + strBytes l := by rw [HS.out, List.take_length]
      have hs2 := HL.out
      have hd : decide ((s : Int) ≤ 2000) = decide (l.length + strBytes l ≤ 2000) := by rw [decide_eq_decide]; omega
      have HD := Aside0.mk hd
      clear hd hs hs2
      go_wp2
      go_ret
      exact ⟨by rw [← HD.out]; rfl, rfl⟩
end Go.Proofs.Ytfngbmcedkncjaa
