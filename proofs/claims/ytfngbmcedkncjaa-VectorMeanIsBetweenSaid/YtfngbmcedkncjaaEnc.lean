/- wire.Ints, Strings, Digests (26, 28, 30) and the reference's (27, 29, 31). -/
import Derived.Test.YtfngbmcedkncjaaDig
namespace Go.Proofs.Ytfngbmcedkncjaa
open Go.RowKit Go.Proofs.YtfngbmcedkncjaaW.PrintWords Go.Proofs.YtfngbmcedkncjaaW.PrintLast Go.Proofs.YtfngbmcedkncjaaW.PrintMore Plain
attribute [local go_sem] max2_int min2_int max_two min_two max_three min_three max_four min_four
set_option linter.unusedVariables false
set_option linter.unusedSimpArgs false

set_option maxHeartbeats 400000 in
set_option maxRecDepth 100000 in
theorem Ints_calls (A : Option Addr) (c : Nat) (l : List Int) (w : World) (hr : Kd.C (Kd.int .i64) w A l.length l) (hc : l.length ≤ c) (hw : ∀ x ∈ l, I64 x) (hl : l.length * 10 + 10 ≤ 140737488355328) :
    Calls Try.prog 26 #[.slice A l.length c] w fun e w' => ∃ v, e = .returned v ∧ Own (Kd.int .u8) 5 w.heap.size w' v (eInts l) ∧ Bel w.heap.size w w' := by
  have H := Aside0.mk (list_int_calls A c l w hr hc hw hl)
  clear hr hc hw hl
  go_enter Try.func26, Try.ntmps26
  go_wp2_with (go_at_call 71; refine H.out.mono ?_; rintro e w1 ⟨v, rfl, HO, HB⟩)
  go_ret
  exact ⟨_, rfl, HO, HB⟩
set_option maxHeartbeats 400000 in
set_option maxRecDepth 100000 in
theorem Strings_calls (A : Option Addr) (c : Nat) (l : List ByteArray) (w : World) (hr : Kd.C Kd.string w A l.length l) (hc : l.length ≤ c) (hm : l.length ≤ 9223372036854775807) (hl : (l.flatMap eBytes).length + 10 ≤ 140737488355328) :
    Calls Try.prog 28 #[.slice A l.length c] w fun e w' => ∃ v, e = .returned v ∧ Own (Kd.int .u8) 5 w.heap.size w' v (eStrs l) ∧ Bel w.heap.size w w' := by
  have H := Aside0.mk (list_str_calls A c l w hr hc hm hl)
  clear hr hc hm hl
  go_enter Try.func28, Try.ntmps28
  go_wp2_with (go_at_call 72; refine H.out.mono ?_; rintro e w1 ⟨v, rfl, HO, HB⟩)
  go_ret
  exact ⟨_, rfl, HO, HB⟩
set_option maxHeartbeats 400000 in
set_option maxRecDepth 100000 in
theorem Digests_calls (A : Option Addr) (c : Nat) (l : List (List Int)) (w : World) (hr : Kd.C dgK w A l.length l) (hc : l.length ≤ c) (hl : l.length * 16 + 26 ≤ 140737488355328) :
    Calls Try.prog 30 #[.slice A l.length c] w fun e w' => ∃ v, e = .returned v ∧ Own (Kd.int .u8) 5 w.heap.size w' v (eDigs l) ∧ Bel w.heap.size w w' := by
  have H := Aside0.mk (list_dig_calls A c l w hr hc hl)
  clear hr hc hl
  go_enter Try.func30, Try.ntmps30
  go_wp2_with (go_at_call 73; refine H.out.mono ?_; rintro e w1 ⟨v, rfl, HO, HB⟩)
  go_ret
  exact ⟨_, rfl, HO, HB⟩

set_option maxHeartbeats 400000 in
set_option maxRecDepth 100000 in
theorem refInts_calls (A : Option Addr) (c : Nat) (l : List Int) (w : World) (hr : Kd.C (Kd.int .i64) w A l.length l) (hc : l.length ≤ c) (hw : ∀ x ∈ l, I64 x) (hl : l.length * 10 + 10 ≤ 140737488355328) :
    Calls Try.prog 27 #[.slice A l.length c] w fun e w' => ∃ v, e = .returned v ∧ Own (Kd.int .u8) 5 w.heap.size w' v (eInts l) ∧ Bel w.heap.size w w' := by
  have HR := Aside0.mk hr
  have HC := Aside0.mk hc
  have HW := Aside0.mk hw
  have HN : Aside0 (I64 (l.length : Int)) := ⟨by unfold I64; omega⟩
  have HL := Aside0.mk hl
  have hlm : l.length ≤ 9223372036854775807 := by omega
  clear hr hc hw hl
  go_enter Try.func27, Try.ntmps27
  go_wp2_with (go_at_call 23; refine (refInt_calls _ HN.out _).mono ?_; rintro e w1 ⟨v, rfl, HO, HB⟩)
  go_loopw [3, 4] (fun v3 v4 wr => ∃ (k : Nat), v4 = .int .i64 k ∧ k ≤ l.length ∧ Own (Kd.int .u8) 5 w.heap.size wr v3 (eInt (l.length : Int) ++ (l.take k).flatMap eInt) ∧ Bel w.heap.size w wr) (fun _ v4 _ => l.length - (intOf v4).toNat)
  case atStart => exact ⟨0, rfl, Nat.zero_le _, by simpa using HO, HB⟩
  case round =>
    clear HO HB
    obtain ⟨k, rfl, hk, HO, HB⟩ := hrel
    by_cases hlt : k < l.length
    · have hq : (k : Int) < (l.length : Int) := by omega
      obtain ⟨ad, e, hx⟩ := Kd.at_int (Kd.C_below HR.out HB.out) k (by omega) hq
      cases e
      have HX := Aside0.mk (HW.out (rd l k) (rd_mem l k hlt))
      have HT := Aside0.mk (take_flat eInt l k _ (rd_at l k hlt) (eInt (l.length : Int)))
      have HE := Aside0.mk (eInt_length HX.out)
      have HF : Aside0 ((eInt (l.length : Int) ++ (l.take k).flatMap eInt).length ≤ l.length * 10) := ⟨by
        have h1 := flatMap_len eInt 10 (l.take k) (fun x hx => eInt_length (HW.out x (List.mem_of_mem_take hx)))
        have h2 := eInt_length HN.out
        rw [List.length_append]
        rw [List.length_take] at h1
        have h3 : min k l.length * 10 ≤ (l.length - 1) * 10 := Nat.mul_le_mul_right _ (by omega)
        have h4 : (l.length - 1) * 10 + 10 = l.length * 10 := by omega
        omega⟩
      rw [Int.toNat_natCast] at hx
      generalize rd l k = x at *
      go_wp2_with fail
      refine (refInt_calls _ HX.out _).mono ?_
      rintro e w1 ⟨v1, rfl, HO1, HB1⟩
      obtain ⟨A1, c1, rfl, hc1, hC1⟩ := HO1.reads
      have HC1 := Aside0.mk hC1
      have HO2 := HO.bel HB1
      have HB2 := HB.trans HB1
      clear hC1 hc1 HO HB HO1 HB1
      go_wp2_with (at_builtin; refine ap_row (Value.int .u8) 0 (w := w) ty_u8 HO2 HB2 HC1.out (by have := HE.out; have := HF.out; have := HL.out; omega) rfl rfl rfl rfl ?_; intro v2 w2 HO3 HB3; clear HO2 HB2)
      go_roundw
      case rel => exact ⟨k + 1, by go_num, by omega, by rw [← HT.out]; exact HO3, HB3⟩
      case measure => simp [intOf]; omega
    · obtain rfl : k = l.length := by omega
      go_wp2
      go_ret
      exact ⟨_, rfl, by unfold eInts; rw [List.take_length] at HO; exact HO, HB⟩

set_option maxHeartbeats 400000 in
set_option maxRecDepth 100000 in
theorem refStrings_calls (A : Option Addr) (c : Nat) (l : List ByteArray) (w : World) (hr : Kd.C Kd.string w A l.length l) (hc : l.length ≤ c) (hm : l.length ≤ 9223372036854775807) (hl : (l.flatMap eBytes).length + 10 ≤ 140737488355328) :
    Calls Try.prog 29 #[.slice A l.length c] w fun e w' => ∃ v, e = .returned v ∧ Own (Kd.int .u8) 5 w.heap.size w' v (eStrs l) ∧ Bel w.heap.size w w' := by
  have HR := Aside0.mk hr
  have HC := Aside0.mk hc
  have HN : Aside0 (I64 (l.length : Int)) := ⟨by unfold I64; omega⟩
  have HL := Aside0.mk hl
  clear hr hc hl
  go_enter Try.func29, Try.ntmps29
  go_wp2_with (go_at_call 23; refine (refInt_calls _ HN.out _).mono ?_; rintro e w1 ⟨v, rfl, HO, HB⟩)
  go_loopw [3, 4] (fun v3 v4 wr => ∃ (k : Nat), v4 = .int .i64 k ∧ k ≤ l.length ∧ Own (Kd.int .u8) 5 w.heap.size wr v3 (eInt (l.length : Int) ++ (l.take k).flatMap eBytes) ∧ Bel w.heap.size w wr) (fun _ v4 _ => l.length - (intOf v4).toNat)
  case atStart => exact ⟨0, rfl, Nat.zero_le _, by simpa using HO, HB⟩
  case round =>
    clear HO HB
    obtain ⟨k, rfl, hk, HO, HB⟩ := hrel
    by_cases hlt : k < l.length
    · have hq : (k : Int) < (l.length : Int) := by omega
      obtain ⟨ad, e, hx⟩ := Kd.at_string (Kd.C_below HR.out HB.out) k (by omega) hq
      cases e
      have HT := Aside0.mk (take_flat eBytes l k _ (rdO_at ByteArray.empty l k hlt) (eInt (l.length : Int)))
      have HF := Aside0.mk (flat_le eBytes l k _ (rdO_at ByteArray.empty l k hlt))
      have HE := Aside0.mk (eInt_length HN.out)
      rw [Int.toNat_natCast] at hx
      generalize rdOf ByteArray.empty l k = x at *
      have HX : Aside0 (x.size + 10 ≤ 140737488355328) := ⟨by
        have h1 := HF.out
        have h2 := HL.out
        have h3 : (eBytes x).length = (eInt (x.size : Int)).length + x.size := by unfold eBytes; rw [List.length_append, bytesOf_length]
        have h4 := eInt_pos (x.size : Int)
        omega⟩
      go_wp2_with fail
      refine (refBytes_calls _ HX.out _).mono ?_
      rintro e w1 ⟨v1, rfl, HO1, HB1⟩
      obtain ⟨A1, c1, rfl, hc1, hC1⟩ := HO1.reads
      have HC1 := Aside0.mk hC1
      have HO2 := HO.bel HB1
      have HB2 := HB.trans HB1
      clear hC1 hc1 HO HB HO1 HB1
      go_wp2_with (at_builtin; refine ap_row (Value.int .u8) 0 (w := w) ty_u8 HO2 HB2 HC1.out (by have := HE.out; have := HF.out; have := HL.out; rw [List.length_append]; omega) rfl rfl rfl rfl ?_; intro v2 w2 HO3 HB3; clear HO2 HB2)
      go_roundw
      case rel => exact ⟨k + 1, by go_num, by omega, by rw [← HT.out]; exact HO3, HB3⟩
      case measure => simp [intOf]; omega
    · obtain rfl : k = l.length := by omega
      go_wp2
      go_ret
      exact ⟨_, rfl, by unfold eStrs; rw [List.take_length] at HO; exact HO, HB⟩

set_option maxHeartbeats 400000 in
set_option maxRecDepth 100000 in
theorem refDigests_calls (A : Option Addr) (c : Nat) (l : List (List Int)) (w : World) (hr : Kd.C dgK w A l.length l) (hc : l.length ≤ c) (hl : l.length * 16 + 26 ≤ 140737488355328) :
    Calls Try.prog 31 #[.slice A l.length c] w fun e w' => ∃ v, e = .returned v ∧ Own (Kd.int .u8) 5 w.heap.size w' v (eDigs l) ∧ Bel w.heap.size w w' := by
  have HR := Aside0.mk hr
  have HC := Aside0.mk hc
  have HN : Aside0 (I64 (l.length : Int)) := ⟨by unfold I64; omega⟩
  have HL := Aside0.mk hl
  have hlm : l.length ≤ 9223372036854775807 := by omega
  clear hr hc hl
  go_enter Try.func31, Try.ntmps31
  go_wp2_with (go_at_call 23; refine (refInt_calls _ HN.out _).mono ?_; rintro e w1 ⟨v, rfl, HO, HB⟩)
  go_loopw [3, 4] (fun v3 v4 wr => ∃ (k : Nat), v4 = .int .i64 k ∧ k ≤ l.length ∧ Own (Kd.int .u8) 5 w.heap.size wr v3 (eInt (l.length : Int) ++ (l.take k).flatten) ∧ Bel w.heap.size w wr) (fun _ v4 _ => l.length - (intOf v4).toNat)
  case atStart => exact ⟨0, rfl, Nat.zero_le _, by simpa using HO, HB⟩
  case round =>
    clear HO HB
    obtain ⟨k, rfl, hk, HO, HB⟩ := hrel
    by_cases hlt : k < l.length
    · have hq : (k : Int) < (l.length : Int) := by omega
      obtain ⟨ad, cs, e, hcl, hK, hx⟩ := Kd.C_get (Kd.C_below HR.out HB.out) [] k (by omega) hq
      cases e
      obtain ⟨hK1, hK2⟩ := Kd.arr_cells hK
      rw [Int.toNat_natCast] at hx hK1 hK2
      have hX : ∀ j u, (dgCells (l.getD k []))[j]? = some u → wr.cell? ((ad.add (k * 16)).add j) = some u := fun j u h => by rw [add_add]; exact hx j u (by rw [hK2]; exact h)
      have hC := C_cells wr _ _ (by omega) hX
      rw [hK1] at hC
      have HCC := Aside0.mk hC
      have H16 := Aside0.mk hK1
      have HT := Aside0.mk (flat_step l k (l.getD k []) (by simp [List.getD_eq_getElem?_getD, hlt]) (eInt (l.length : Int)))
      have HE := Aside0.mk (eInt_length HN.out)
      have HF := Aside0.mk (flat_len l (C_all HR.out) k)
      clear hx hX hK hK2 hcl hK1 hC cs
      generalize l.getD k [] = x at *
      go_wp2_with (at_builtin; refine ap_row (Value.int .u8) 0 (w := w) ty_u8 HO HB HCC.out (by have := HE.out; have := HF.out; have := HL.out; rw [List.length_append]; omega) rfl rfl rfl rfl ?_; intro v2 w2 HO3 HB3; clear HO HB)
      go_roundw
      case rel => exact ⟨k + 1, by go_num, by omega, by rw [← HT.out]; exact HO3, HB3⟩
      case measure => simp [intOf]; omega
    · obtain rfl : k = l.length := by omega
      go_wp2
      go_ret
      exact ⟨_, rfl, by unfold eDigs; rw [List.take_length] at HO; exact HO, HB⟩
end Go.Proofs.Ytfngbmcedkncjaa
