/- The reference's GetInt (33). -/
import Derived.Test.YtfngbmcedkncjaaLen
namespace Go.Proofs.Ytfngbmcedkncjaa
open Go.RowKit Go.Proofs.YtfngbmcedkncjaaW.PrintWords Go.Proofs.YtfngbmcedkncjaaW.PrintLast Go.Proofs.YtfngbmcedkncjaaW.PrintMore Plain
attribute [local go_sem] max2_int min2_int max_two min_two max_three min_three max_four min_four
set_option linter.unusedVariables false
set_option linter.unusedSimpArgs false

/-- The first k bytes end no number. -/
def lead (l : List Int) (k : Nat) : Prop := ∀ i, i < k → 128 ≤ rd l i
/-- What k bytes say. -/
def val (l : List Int) : Nat → Nat
  | 0 => 0
  | k + 1 => val l k + 2 ^ (7 * k) * (rd l k % 128).toNat
theorem fin_val {l : List Int} (hb : Bytes8 l) : ∀ k, k ≤ 9 → k ≤ l.length → lead l k → fin k (val l k) (l.drop k) = dInt l
  | 0, _, _, _ => fin_start l
  | k + 1, hk, hl, h => by
    have ih := fin_val hb k (by omega) (by omega) (fun i hi => h i (by omega))
    have hx := h k (by omega)
    have h255 := hb (rd l k) (rd_mem l k (by omega))
    rw [drop_rd l k (by omega), fin_step (by omega) hx] at ih
    rw [val, show rd l k % 128 = rd l k - 128 from by omega]
    exact ih
theorem fin_ten {l : List Int} (hb : Bytes8 l) (hl : 10 ≤ l.length) (h : lead l 10) : ((0, 0, 11) : Int × Int × Int) = dInt l := by
  have h1 := fin_val hb 9 (by omega) (by omega) (fun i hi => h i (by omega))
  rw [drop_rd l 9 (by omega), fin_bad (.inl ⟨rfl, Int.lt_of_lt_of_le (by decide) (h 9 (by omega))⟩)] at h1
  exact h1
theorem fin_all {l : List Int} (hb : Bytes8 l) (hl : l.length ≤ 9) (h : lead l l.length) : ((0, 0, 10) : Int × Int × Int) = dInt l := by
  have h1 := fin_val hb l.length hl (Nat.le_refl _) h
  rw [List.drop_length, fin_nil] at h1
  exact h1
theorem fin_wrong {l : List Int} {k : Nat} (hb : Bytes8 l) (hk : k ≤ 9) (hl : k < l.length) (h : lead l k) (hw : (k = 9 ∧ 1 < rd l k) ∨ (0 < k ∧ rd l k = 0)) : ((0, 0, 11) : Int × Int × Int) = dInt l := by
  have h1 := fin_val hb k hk (by omega) h
  rw [drop_rd l k hl, fin_bad hw] at h1
  exact h1
theorem fin_right {l : List Int} {k : Nat} (hb : Bytes8 l) (hk : k ≤ 9) (hl : k < l.length) (h : lead l k) (hw : ¬ ((k = 9 ∧ 1 < rd l k) ∨ (0 < k ∧ rd l k = 0))) (hx : rd l k < 128) : ((unzig (val l (k + 1)), (k : Int) + 1, 0) : Int × Int × Int) = dInt l := by
  have h1 := fin_val hb k hk (by omega) h
  have h255 := hb (rd l k) (rd_mem l k hl)
  rw [drop_rd l k hl, fin_end hw hx] at h1
  rw [← h1, val, show rd l k % 128 = rd l k from by omega]
  rfl
theorem val_lt {l : List Int} {k : Nat} (hb : Bytes8 l) (hk : k ≤ 9) (hl : k < l.length) (hw : ¬ (k = 9 ∧ 1 < rd l k)) : val l (k + 1) < 18446744073709551616 := by
  have hv : ∀ j, val l j < 2 ^ (7 * j) := by
    intro j
    induction j with
    | zero => simp [val]
    | succ j ih =>
      rw [val, show 7 * (j + 1) = 7 * j + 7 from by omega, Nat.pow_add]
      have : 2 ^ (7 * j) * (rd l j % 128).toNat ≤ 2 ^ (7 * j) * 127 := Nat.mul_le_mul_left _ (by omega)
      omega
  have h1 := hv k
  have h255 := hb (rd l k) (rd_mem l k hl)
  rw [val]
  rcases Nat.lt_or_ge k 9 with h9 | h9
  · have h2 : 2 ^ (7 * k) ≤ 2 ^ 56 := Nat.pow_le_pow_right (by decide) (by omega)
    have h3 : 2 ^ (7 * k) * (rd l k % 128).toNat ≤ 2 ^ 56 * 127 := Nat.mul_le_mul h2 (by omega)
    omega
  · obtain rfl : k = 9 := by omega
    have h3 : (rd l ((9 : Nat) : Int) % 128).toNat ≤ 1 := by omega
    have h4 : 2 ^ (7 * 9) * (rd l ((9 : Nat) : Int) % 128).toNat ≤ 2 ^ (7 * 9) * 1 := Nat.mul_le_mul_left _ h3
    omega

theorem back_step {l : List Int} {i z V : Nat} (h : z * 2 ^ (7 * (i + 1)) + val l (i + 1) = V) : (z * 128 + (rd l i % 128).toNat) * 2 ^ (7 * i) + val l i = V := by
  rw [← h, val, show 7 * (i + 1) = 7 * i + 7 from by omega, Nat.pow_add, Nat.add_mul]
  have e1 : z * (2 ^ (7 * i) * 2 ^ 7) = z * 128 * 2 ^ (7 * i) := by rw [Nat.mul_comm (2 ^ (7 * i)), ← Nat.mul_assoc]
  have e2 : (rd l i % 128).toNat * 2 ^ (7 * i) = 2 ^ (7 * i) * (rd l i % 128).toNat := Nat.mul_comm _ _
  rw [e1, e2]
  omega
theorem back_le {l : List Int} {i z V : Nat} (h : z * 2 ^ (7 * (i + 1)) + val l (i + 1) = V) (hV : V < 18446744073709551616) : z * 128 + (rd l i % 128).toNat < 18446744073709551616 := by
  have h1 := back_step h
  have h2 : (z * 128 + (rd l i % 128).toNat) * 1 ≤ (z * 128 + (rd l i % 128).toNat) * 2 ^ (7 * i) := Nat.mul_le_mul_left _ (Nat.one_le_two_pow)
  omega
theorem back_odd {z : Nat} (hz : (z : Int) < 18446744073709551616) (h : ((z : Int) % 2 == 1) = true) : wrap64 (-1 - wrap64 (IntKind.u64.wrap ((z : Int) / 2))) = unzig z := by
  have : (z : Int) % 2 = 1 := by simpa using h
  unfold unzig
  rw [if_neg (by omega), wrap_u64, Int.emod_eq_of_lt (by omega) (by omega), wrap64_id (n := (z : Int) / 2) (by omega) (by omega), wrap64_id (by omega) (by omega)]
  omega
theorem back_even {z : Nat} (hz : (z : Int) < 18446744073709551616) (h : ((z : Int) % 2 == 1) = false) : wrap64 (IntKind.u64.wrap ((z : Int) / 2)) = unzig z := by
  have : ¬ (z : Int) % 2 = 1 := by simpa using h
  unfold unzig
  rw [if_pos (by omega), wrap_u64, Int.emod_eq_of_lt (by omega) (by omega), wrap64_id (n := (z : Int) / 2) (by omega) (by omega)]
  omega

set_option maxHeartbeats 400000 in
set_option maxRecDepth 100000 in
theorem refGetInt_calls (A : Option Addr) (c : Nat) (l : List Int) (w : World) (hr : Kd.C (Kd.int .u8) w A l.length l) (hc : l.length ≤ c) (hb : Bytes8 l) :
    Calls Try.prog 33 #[.slice A l.length c] w fun e w' => e = .returned (.tuple #[.int .i64 (dInt l).1, .int .i64 (dInt l).2.1, .int .i64 (dInt l).2.2]) ∧ w = w' := by
  have HR := Aside0.mk hr
  have HB := Aside0.mk hb
  clear hr hc hb
  go_enter Try.func33, Try.ntmps33
  go_upto_block 0 with (fail)
  go_cut [5] (fun v5 wc => ∃ k : Nat, v5 = .int .i64 k ∧ k ≤ 10 ∧ k ≤ l.length ∧ Aside0 (lead l k) ∧ Aside0 (k = 10 ∨ k = l.length ∨ rd l k < 128) ∧ w = wc)
  case first =>
    go_wp2
    go_loop [5] (fun v5 => ∃ k : Nat, v5 = .int .i64 k ∧ k ≤ 10 ∧ k ≤ l.length ∧ Aside0 (lead l k)) (fun v5 => l.length - (intOf v5).toNat)
    case atStart => exact ⟨0, rfl, by omega, by omega, ⟨fun i hi => by omega⟩⟩
    case round =>
      obtain ⟨k, rfl, hk, hkl, HL⟩ := hrel
      by_cases h1 : k < l.length
      · by_cases h2 : k < 10
        · have hq : (k : Int) < (l.length : Int) := by omega
          have hq2 : (k : Int) < 10 := by omega
          obtain ⟨ad, e, hx⟩ := Kd.at_int HR.out k (by omega) hq
          cases e
          rw [Int.toNat_natCast] at hx
          obtain ⟨x, hxd⟩ : ∃ x, x = rd l k := ⟨_, rfl⟩
          rw [← hxd] at hx
          have HX := Aside0.mk hxd
          clear hxd
          by_cases h3 : 128 ≤ x
          · go_wp2
            go_round
            case rel => exact ⟨k + 1, by go_num, by omega, by omega, ⟨fun i hi => by
              rcases Nat.lt_or_ge i k with h | h
              · exact HL.out i h
              · obtain rfl : i = k := by omega
                rw [← HX.out]; exact h3⟩⟩
            case measure => simp [intOf]; omega
          · go_wp2
            go_meet
            case rel => exact ⟨k, rfl, hk, hkl, HL, ⟨.inr (.inr (by rw [← HX.out]; omega))⟩, rfl⟩
        · go_wp2
          go_meet
          case rel => exact ⟨k, rfl, hk, hkl, HL, ⟨.inl (by omega)⟩, rfl⟩
      · go_wp2
        go_meet
        case rel => exact ⟨k, rfl, hk, hkl, HL, ⟨.inr (.inl (by omega))⟩, rfl⟩
  case rest =>
    obtain ⟨k, rfl, hk, hkl, HL, HE, rfl⟩ := hcut
    by_cases h10 : k = 10
    · subst h10
      go_wp2
      go_ret3
      exact ⟨ret3_int (fin_ten HB.out hkl HL.out), rfl⟩
    · have hb10 : ((k : Int) == 10) = false := beq_eq_false_iff_ne.2 (by omega)
      by_cases hkn : k = l.length
      · have hbn : ((k : Int) == (l.length : Int)) = true := beq_iff_eq.2 (by omega)
        have HK := Aside0.mk hkn
        clear hkn
        go_wp2
        go_ret3
        exact ⟨ret3_int (fin_all HB.out (by have := HK.out; omega) (by have := HK.out; rw [← this]; exact HL.out)), rfl⟩
      · have hbn : ((k : Int) == (l.length : Int)) = false := beq_eq_false_iff_ne.2 (by omega)
        have hq : (k : Int) < (l.length : Int) := by omega
        have hlt : k < l.length := by omega
        obtain ⟨ad, e, hx⟩ := Kd.at_int HR.out k (by omega) hq
        cases e
        rw [Int.toNat_natCast] at hx
        have HE2 : Aside0 (rd l k < 128) := ⟨by have := HE.out; omega⟩
        have HB2 := Aside0.mk (HB.out (rd l k) (rd_mem l k hlt))
        obtain ⟨x, hxd⟩ : ∃ x, x = rd l k := ⟨_, rfl⟩
        rw [← hxd] at hx HE2 HB2
        have HX := Aside0.mk hxd
        have hx0 := HB2.out.1
        have hx1 := HB2.out.2
        clear hxd hkn
        go_upto_region 8 with (fail)
        go_cut [50] (fun v50 wc => ∃ q : Bool, v50 = .bool q ∧ Aside0 (q = true ↔ (k = 9 ∧ 1 < x) ∨ (0 < k ∧ x = 0)) ∧ w = wc)
        case first =>
          by_cases h9 : k = 9
          · have hb9 : ((k : Int) == 9) = true := beq_iff_eq.2 (by omega)
            have h9p : 0 < k := by omega
            have H9 := Aside0.mk h9
            clear h9
            by_cases h1 : 1 < x
            · go_wp2
              go_meet
              case rel => exact ⟨_, rfl, ⟨by have := H9.out; simp; omega⟩, rfl⟩
            · by_cases h0 : x = 0
              · have hb0 : (x == 0) = true := beq_iff_eq.2 h0
                have H0 := Aside0.mk h0
                clear h0
                go_wp2
                go_meet
                case rel => exact ⟨_, rfl, ⟨by have := H9.out; have := H0.out; simp; omega⟩, rfl⟩
              · have hb0 : (x == 0) = false := beq_eq_false_iff_ne.2 h0
                have H0 := Aside0.mk h0
                clear h0
                go_wp2
                go_meet
                case rel => exact ⟨_, rfl, ⟨by have := H9.out; have := H0.out; simp; omega⟩, rfl⟩
          · have hb9 : ((k : Int) == 9) = false := beq_eq_false_iff_ne.2 (by omega)
            by_cases h1 : 0 < k
            · by_cases h0 : x = 0
              · have hb0 : (x == 0) = true := beq_iff_eq.2 h0
                have H0 := Aside0.mk h0
                clear h0
                go_wp2
                go_meet
                case rel => exact ⟨_, rfl, ⟨by have := H0.out; simp; omega⟩, rfl⟩
              · have hb0 : (x == 0) = false := beq_eq_false_iff_ne.2 h0
                have H0 := Aside0.mk h0
                clear h0
                go_wp2
                go_meet
                case rel => exact ⟨_, rfl, ⟨by have := H0.out; simp; omega⟩, rfl⟩
            · go_wp2
              go_meet
              case rel => exact ⟨_, rfl, ⟨by simp; omega⟩, rfl⟩
        case rest =>
          obtain ⟨q, rfl, HQ, rfl⟩ := hcut
          cases q with
          | true =>
            go_wp2
            go_ret3
            exact ⟨ret3_int (fin_wrong HB.out (by omega) hlt HL.out (by rw [← HX.out]; exact HQ.out.1 trivial)), rfl⟩
          | false =>
            have HW : Aside0 (¬ ((k = 9 ∧ 1 < rd l k) ∨ (0 < k ∧ rd l k = 0))) := ⟨by rw [← HX.out]; exact fun h => Bool.noConfusion (HQ.out.2 h)⟩
            go_wp2
            go_loop [6, 7] (fun v6 v7 => ∃ (j : Nat) (z : Nat), v7 = .int .i64 ((j : Int) - 1) ∧ j ≤ k + 1 ∧ v6 = .int .u64 z ∧ Aside0 (z * 2 ^ (7 * j) + val l j = val l (k + 1))) (fun _ v7 => (intOf v7 + 1).toNat)
            case atStart => exact ⟨k + 1, 0, by go_num, by omega, rfl, ⟨by simp⟩⟩
            case round =>
              obtain ⟨j, z, rfl, hj, rfl, HZ⟩ := hrel
              have HV := Aside0.mk (val_lt HB.out (by omega) hlt (fun h => HW.out (.inl h)))
              cases j with
              | zero =>
                have hzv : z = val l (k + 1) := by have := HZ.out; simpa [val] using this
                have hz64 : (z : Int) < 18446744073709551616 := by have := HV.out; omega
                have HZV := Aside0.mk hzv
                have HZ64 := Aside0.mk hz64
                clear hzv hz64
                go_wp2
                all_goals go_ret3
                all_goals refine ⟨ret3_int (t := dInt l) ?_, rfl⟩
                · rw [back_odd HZ64.out (by assumption), HZV.out]
                  exact fin_right HB.out (by omega) hlt HL.out HW.out (by rw [← HX.out]; exact HE2.out)
                · rw [back_even HZ64.out (by assumption), HZV.out]
                  exact fin_right HB.out (by omega) hlt HL.out HW.out (by rw [← HX.out]; exact HE2.out)
              | succ i =>
                have hii : i < l.length := by omega
                have hqi : (i : Int) < (l.length : Int) := by omega
                obtain ⟨ad2, e2, hy⟩ := Kd.at_int HR.out i (by omega) hqi
                cases e2
                rw [Int.toNat_natCast] at hy
                have hbl := back_le HZ.out HV.out
                have HS := Aside0.mk (back_step HZ.out)
                have hby := HB.out (rd l i) (rd_mem l i hii)
                generalize rd l i = y at *
                have hy0 := hby.1
                have hy1 := hby.2
                have hzb : (z : Int) * 128 + y % 128 < 18446744073709551616 := by omega
                clear hby hbl
                rw [show (((i + 1 : Nat) : Int) - 1) = (i : Int) from by omega]
                go_wp2
                go_round
                case rel => exact ⟨i, z * 128 + (y % 128).toNat, rfl, by omega, by go_num, HS⟩
                case measure => simp [intOf]
end Go.Proofs.Ytfngbmcedkncjaa
