/- SameInts (38), SameTexts (41), Same (21), few (19). -/
import Derived.Test.YtfngbmcedkncjaaSameD
namespace Go.Proofs.Ytfngbmcedkncjaa
open Go.RowKit Go.Proofs.YtfngbmcedkncjaaW.PrintWords Go.Proofs.YtfngbmcedkncjaaW.PrintLast Go.Proofs.YtfngbmcedkncjaaW.PrintMore Plain
attribute [local go_sem] max2_int min2_int max_two min_two max_three min_three max_four min_four
set_option linter.unusedVariables false
set_option linter.unusedSimpArgs false

set_option maxHeartbeats 400000 in
set_option maxRecDepth 100000 in
theorem SameInts_calls (A A' : Option Addr) (c c' : Nat) (l l' : List Int) (w : World) (hr : Kd.C (Kd.int .i64) w A l.length l) (hr' : Kd.C (Kd.int .i64) w A' l'.length l') (hn : l.length ≤ 9223372036854775807) (hn' : l'.length ≤ 9223372036854775807) :
    Calls Try.prog 38 #[.slice A l.length c, .slice A' l'.length c'] w fun e w' => e = .returned (.bool (l == l')) ∧ Drawn0 w w' := by
  have HR := Aside0.mk hr
  have HR' := Aside0.mk hr'
  clear hr hr'
  by_cases hll : l.length = l'.length
  · have hb : ((l.length : Int) != (l'.length : Int)) = false := bne_eq_false_iff_eq.2 (by omega)
    have HLL := Aside0.mk hll
    clear hll
    go_enter Try.func38, Try.ntmps38
    go_wp2
    go_loopw [5] (fun v5 wr => ∃ k : Nat, v5 = .int .i64 k ∧ k ≤ l.length ∧ Aside0 (l.take k = l'.take k) ∧ Drawn0 w wr) (fun v5 _ => l.length - (intOf v5).toNat)
    case atStart => exact ⟨0, rfl, by omega, ⟨rfl⟩, Drawn0.refl _⟩
    case round =>
      obtain ⟨k, rfl, hk, HT, ⟨m, rfl⟩⟩ := hrel
      by_cases hlt : k < l.length
      · have hlt' : k < l'.length := by have := HLL.out; omega
        have hq : (k : Int) < (l.length : Int) := by omega
        have hq' : (k : Int) < (l'.length : Int) := by omega
        obtain ⟨ad, e, hx⟩ := Kd.at_int HR.out k (by omega) hq
        cases e
        obtain ⟨ad', e, hx'⟩ := Kd.at_int HR'.out k (by omega) hq'
        cases e
        rw [Int.toNat_natCast] at hx hx'
        have H1 : Aside0 (l.take (k + 1) = l.take k ++ [rd l k] ∧ l'.take (k + 1) = l'.take k ++ [rd l' k]) := ⟨by
          rw [List.take_add_one, List.take_add_one, rd_at l k hlt, rd_at l' k hlt']
          exact ⟨rfl, rfl⟩⟩
        have H2 : Aside0 (l = l' → rd l k = rd l' k) := ⟨fun h => by rw [h]⟩
        generalize rd l k = x at *
        generalize rd l' k = y at *
        go_wp2
        go_quiet (fail)
        by_cases hxy : x = y
        · have hbx : (x != y) = false := bne_eq_false_iff_eq.2 hxy
          have HXY := Aside0.mk hxy
          rw [hbx]
          clear hxy hbx
          go_wp2
          go_roundw
          case rel => exact ⟨k + 1, by go_num, by omega, ⟨by rw [H1.out.1, H1.out.2, HT.out, HXY.out]⟩, by first | exact (Drawn0.refl w).step (m + nq) | exact ((Drawn0.refl w).step m).step nq⟩
          case measure => simp [intOf]; omega
        · have hbx : (x != y) = true := bne_iff_ne.2 hxy
          have HF : Aside0 ((l == l') = false) := ⟨beq_eq_false_iff_ne.2 (fun h => hxy (H2.out h))⟩
          rw [hbx]
          clear hxy hbx
          go_wp2
          go_ret
          exact ⟨by rw [HF.out]; rfl, by first | exact (Drawn0.refl w).step (m + nq) | exact ((Drawn0.refl w).step m).step nq⟩
      · have HF : Aside0 ((l == l') = true) := ⟨by
          have h := HT.out
          rw [List.take_of_length_le (by omega), List.take_of_length_le (by have := HLL.out; omega)] at h
          exact beq_iff_eq.2 h⟩
        go_wp2
        go_ret
        exact ⟨by rw [HF.out]; rfl, (Drawn0.refl _).step m⟩
  · have hb : ((l.length : Int) != (l'.length : Int)) = true := bne_iff_ne.2 (by omega)
    have HF : Aside0 ((l == l') = false) := ⟨beq_eq_false_iff_ne.2 (fun h => hll (by rw [h]))⟩
    clear hll
    go_enter Try.func38, Try.ntmps38
    go_wp2
    go_ret
    exact ⟨by rw [HF.out]; rfl, Drawn0.refl _⟩

theorem bytes_ext {a b : ByteArray} (h : a.toList = b.toList) : a = b := by
  rw [ByteArray.toList_eq, ByteArray.toList_eq] at h
  obtain ⟨⟨a⟩⟩ := a
  obtain ⟨⟨b⟩⟩ := b
  simpa using h
set_option maxHeartbeats 400000 in
set_option maxRecDepth 100000 in
theorem SameTexts_calls (A A' : Option Addr) (c c' : Nat) (l l' : List ByteArray) (w : World) (hr : Kd.C Kd.string w A l.length l) (hr' : Kd.C Kd.string w A' l'.length l') (hn : l.length ≤ 9223372036854775807) (hn' : l'.length ≤ 9223372036854775807) :
    Calls Try.prog 41 #[.slice A l.length c, .slice A' l'.length c'] w fun e w' => e = .returned (.bool (decide (l = l'))) ∧ Drawn0 w w' := by
  have HR := Aside0.mk hr
  have HR' := Aside0.mk hr'
  clear hr hr'
  by_cases hll : l.length = l'.length
  · have hb : ((l.length : Int) != (l'.length : Int)) = false := bne_eq_false_iff_eq.2 (by omega)
    have HLL := Aside0.mk hll
    clear hll
    go_enter Try.func41, Try.ntmps41
    go_wp2
    go_loopw [5] (fun v5 wr => ∃ k : Nat, v5 = .int .i64 k ∧ k ≤ l.length ∧ Aside0 (l.take k = l'.take k) ∧ Drawn0 w wr) (fun v5 _ => l.length - (intOf v5).toNat)
    case atStart => exact ⟨0, rfl, by omega, ⟨rfl⟩, Drawn0.refl _⟩
    case round =>
      obtain ⟨k, rfl, hk, HT, ⟨m, rfl⟩⟩ := hrel
      by_cases hlt : k < l.length
      · have hlt' : k < l'.length := by have := HLL.out; omega
        have hq : (k : Int) < (l.length : Int) := by omega
        have hq' : (k : Int) < (l'.length : Int) := by omega
        obtain ⟨ad, e, hx⟩ := Kd.at_string HR.out k (by omega) hq
        cases e
        obtain ⟨ad', e, hx'⟩ := Kd.at_string HR'.out k (by omega) hq'
        cases e
        rw [Int.toNat_natCast] at hx hx'
        have H1 : Aside0 (l.take (k + 1) = l.take k ++ [rdOf ByteArray.empty l k] ∧ l'.take (k + 1) = l'.take k ++ [rdOf ByteArray.empty l' k]) := ⟨by
          rw [List.take_add_one, List.take_add_one, rdO_at ByteArray.empty l k hlt, rdO_at ByteArray.empty l' k hlt']
          exact ⟨rfl, rfl⟩⟩
        have H2 : Aside0 (l = l' → rdOf ByteArray.empty l k = rdOf ByteArray.empty l' k) := ⟨fun h => by rw [h]⟩
        generalize rdOf ByteArray.empty l k = x at *
        generalize rdOf ByteArray.empty l' k = y at *
        go_wp2
        go_quiet (fail)
        by_cases hxy : x = y
        · have hbx : (!x.toList == y.toList) = false := by rw [hxy]; simp
          have HXY := Aside0.mk hxy
          rw [hbx]
          clear hxy hbx
          go_wp2
          go_roundw
          case rel => exact ⟨k + 1, by go_num, by omega, ⟨by rw [H1.out.1, H1.out.2, HT.out, HXY.out]⟩, by first | exact (Drawn0.refl w).step (m + nq) | exact ((Drawn0.refl w).step m).step nq⟩
          case measure => simp [intOf]; omega
        · have hbx : (!x.toList == y.toList) = true := by simp; exact fun h => hxy (bytes_ext h)
          have HF : Aside0 (decide (l = l') = false) := ⟨decide_eq_false (fun h => hxy (H2.out h))⟩
          rw [hbx]
          clear hxy hbx
          go_wp2
          go_ret
          exact ⟨by rw [HF.out]; rfl, by first | exact (Drawn0.refl w).step (m + nq) | exact ((Drawn0.refl w).step m).step nq⟩
      · have HF : Aside0 (decide (l = l') = true) := ⟨by
          have h := HT.out
          rw [List.take_of_length_le (by omega), List.take_of_length_le (by have := HLL.out; omega)] at h
          exact decide_eq_true h⟩
        go_wp2
        go_ret
        exact ⟨by rw [HF.out]; rfl, (Drawn0.refl _).step m⟩
  · have hb : ((l.length : Int) != (l'.length : Int)) = true := bne_iff_ne.2 (by omega)
    have HF : Aside0 (decide (l = l') = false) := ⟨decide_eq_false (fun h => hll (by rw [h]))⟩
    clear hll
    go_enter Try.func41, Try.ntmps41
    go_wp2
    go_ret
    exact ⟨by rw [HF.out]; rfl, Drawn0.refl _⟩


theorem strOfNums_inj {a b : List Int} (ha : Bytes8 a) (hb : Bytes8 b) (h : strOfNums a = strOfNums b) : a = b := by
  have h1 := congrArg (fun s : ByteArray => s.data.toList) h
  simp only [strOfNums_data] at h1
  have key : ∀ a b : List Int, Bytes8 a → Bytes8 b → (a.map fun n => UInt8.ofNat n.toNat) = (b.map fun n => UInt8.ofNat n.toNat) → a = b := by
    intro a
    induction a with
    | nil =>
      intro b _ _ h
      cases b with
      | nil => rfl
      | cons y b => simp at h
    | cons x a ih =>
      intro b ha hb h
      cases b with
      | nil => simp at h
      | cons y b =>
        simp only [List.map_cons, List.cons.injEq] at h
        have hx := ha x (by simp)
        have hy := hb y (by simp)
        have e : x = y := by
          have := congrArg UInt8.toNat h.1
          simp only [UInt8.toNat_ofNat'] at this
          omega
        rw [e, ih b (fun z hz => ha z (by simp [hz])) (fun z hz => hb z (by simp [hz])) h.2]
  exact key a b ha hb h1
theorem same_bytes {a b : List Int} (ha : Bytes8 a) (hb : Bytes8 b) : ((strOfNums a).toList == (strOfNums b).toList) = (a == b) := by
  rw [Bool.eq_iff_iff, beq_iff_eq, beq_iff_eq]
  exact ⟨fun h => strOfNums_inj ha hb (bytes_ext h), fun h => by rw [h]⟩

set_option maxHeartbeats 400000 in
set_option maxRecDepth 100000 in
theorem Same_calls (A A' : Option Addr) (c c' : Nat) (l l' : List Int) (w : World) (hr : Kd.C (Kd.int .u8) w A l.length l) (hr' : Kd.C (Kd.int .u8) w A' l'.length l') (hb : Bytes8 l) (hb' : Bytes8 l') :
    Calls Try.prog 21 #[.slice A l.length c, .slice A' l'.length c'] w fun e w' => e = .returned (.bool (l == l')) ∧ Drawn0 w w' := by
  have hcv1 := Kd.C_string (P := Try.prog) (c := c) Try.underlying28 Try.underlying5 Try.underlying9 hr
  have hcv2 := Kd.C_string (P := Try.prog) (c := c') Try.underlying28 Try.underlying5 Try.underlying9 hr'
  have HS := Aside0.mk (same_bytes hb hb')
  clear hr hr' hb hb'
  go_enter Try.func21, Try.ntmps21
  go_wp2
  go_ret
  exact ⟨by rw [← HS.out]; rfl, Drawn0.refl _⟩

/-! ### the same list twice -/
theorem SameInts_refl {A A' : Option Addr} {c c' : Nat} {l : List Int} {w : World} (hr : Kd.C (Kd.int .i64) w A l.length l) (hr' : Kd.C (Kd.int .i64) w A' l.length l) :
    Calls Try.prog 38 #[.slice A l.length c, .slice A' l.length c'] w fun e w' => e = .returned (.bool true) ∧ Bel w.heap.size w w' := by
  refine (SameInts_calls A A' c c' l l w hr hr' hr.2.1 hr.2.1).mono ?_
  rintro e w' ⟨rfl, h⟩
  exact ⟨by simp, ⟨h.below⟩⟩
theorem SameTexts_refl {A A' : Option Addr} {c c' : Nat} {l : List ByteArray} {w : World} (hr : Kd.C Kd.string w A l.length l) (hr' : Kd.C Kd.string w A' l.length l) :
    Calls Try.prog 41 #[.slice A l.length c, .slice A' l.length c'] w fun e w' => e = .returned (.bool true) ∧ Bel w.heap.size w w' := by
  refine (SameTexts_calls A A' c c' l l w hr hr' hr.2.1 hr.2.1).mono ?_
  rintro e w' ⟨rfl, h⟩
  exact ⟨by simp, ⟨h.below⟩⟩
theorem SameDigests_refl {A A' : Option Addr} {c c' : Nat} {l : List (List Int)} {w : World} (hr : Kd.C dgK w A l.length l) (hr' : Kd.C dgK w A' l.length l) :
    Calls Try.prog 44 #[.slice A l.length c, .slice A' l.length c'] w fun e w' => e = .returned (.bool true) ∧ Bel w.heap.size w w' := by
  refine (SameDigests_calls A A' c c' l l w hr hr' hr.2.1 hr.2.1).mono ?_
  rintro e w' ⟨rfl, h⟩
  exact ⟨by simp, ⟨h.below⟩⟩
theorem Same_refl {A A' : Option Addr} {c c' : Nat} {l : List Int} {w : World} (hr : Kd.C (Kd.int .u8) w A l.length l) (hr' : Kd.C (Kd.int .u8) w A' l.length l) :
    Calls Try.prog 21 #[.slice A l.length c, .slice A' l.length c'] w fun e w' => e = .returned (.bool true) ∧ Bel w.heap.size w w' := by
  have hcv1 := Kd.C_string (P := Try.prog) (c := c) Try.underlying28 Try.underlying5 Try.underlying9 hr
  have hcv2 := Kd.C_string (P := Try.prog) (c := c') Try.underlying28 Try.underlying5 Try.underlying9 hr'
  clear hr hr'
  go_enter Try.func21, Try.ntmps21
  go_wp2
  go_ret
  exact ⟨by simp, Bel.refl _⟩
end Go.Proofs.Ytfngbmcedkncjaa
