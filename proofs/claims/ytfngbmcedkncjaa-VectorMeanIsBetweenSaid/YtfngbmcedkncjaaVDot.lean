/- Dot (57, 58), size (91), the closures of Norm (87..89), fold at int (90), the specification's Norm (63): walked. Norm (62): a map of closures, made anew; one is looked up. -/
import Derived.Test.YtfngbmcedkncjaaVVal
import Derived.Maps.Own
import Derived.Maps.OwnOps
namespace Go.Proofs.Ytfngbmcedkncjaa
open Go.RowKit Go.Proofs.YtfngbmcedkncjaaW.PrintWords Go.Proofs.YtfngbmcedkncjaaW.PrintLast Go.Proofs.YtfngbmcedkncjaaW.PrintMore Plain
attribute [local go_sem] max2_int min2_int max_two min_two max_three min_three max_four min_four
set_option linter.unusedVariables false
set_option linter.unusedSimpArgs false
theorem abs_le_max' (x : Int) : x ≤ max x (-x) ∧ -x ≤ max x (-x) := by omega
theorem mul_bd {x y k : Int} (hx : -k ≤ x ∧ x ≤ k) (hy : -k ≤ y ∧ y ≤ k) : -(k * k) ≤ x * y ∧ x * y ≤ k * k := by
  have h1 : max x (-x) * max y (-y) ≤ k * k := Int.mul_le_mul (by omega) (by omega) (by omega) (by omega)
  have h2 : x * y ≤ max x (-x) * max y (-y) := by
    rcases Int.le_total 0 x with a | a <;> rcases Int.le_total 0 y with b | b
    · rw [show max x (-x) = x by omega, show max y (-y) = y by omega]; exact Int.le_refl _
    · have := Int.mul_nonneg a (show 0 ≤ -y by omega)
      have h3 := Int.mul_nonneg (show 0 ≤ max x (-x) by omega) (show 0 ≤ max y (-y) by omega)
      rw [Int.mul_neg] at this
      omega
    · have := Int.mul_nonneg (show 0 ≤ -x by omega) b
      have h3 := Int.mul_nonneg (show 0 ≤ max x (-x) by omega) (show 0 ≤ max y (-y) by omega)
      rw [Int.neg_mul] at this
      omega
    · rw [show max x (-x) = -x by omega, show max y (-y) = -y by omega, Int.neg_mul_neg]; exact Int.le_refl _
  have h4 : -(x * y) ≤ max x (-x) * max y (-y) := by
    rcases Int.le_total 0 x with a | a <;> rcases Int.le_total 0 y with b | b
    · have := Int.mul_nonneg a b
      have h3 := Int.mul_nonneg (show 0 ≤ max x (-x) by omega) (show 0 ≤ max y (-y) by omega)
      omega
    · rw [show max x (-x) = x by omega, show max y (-y) = -y by omega, Int.mul_neg]; exact Int.le_refl _
    · rw [show max x (-x) = -x by omega, show max y (-y) = y by omega, Int.neg_mul]; exact Int.le_refl _
    · have := Int.mul_nonneg (show 0 ≤ -x by omega) (show 0 ≤ -y by omega)
      rw [Int.neg_mul_neg] at this
      have h3 := Int.mul_nonneg (show 0 ≤ max x (-x) by omega) (show 0 ≤ max y (-y) by omega)
      omega
  omega
theorem vdotF_step {a b : List Int} {k : Nat} {t T : Int} (h : vdotF t (a.drop k) (b.drop k) = T) (ha : k < a.length) (hb : k < b.length) : vdotF (t + rd a k * rd b k) (a.drop (k + 1)) (b.drop (k + 1)) = T := by
  rw [vdrop_at a k ha, vdrop_at b k hb] at h
  exact h
theorem vdotF_end {a b : List Int} {k : Nat} {t T : Int} (h : vdotF t (a.drop k) (b.drop k) = T) (ha : ¬ k < a.length) : t = T := by
  rw [List.drop_eq_nil_of_le (show a.length ≤ k by omega)] at h
  exact h
theorem rd_mem' {l : List Int} {k : Nat} (h : k < l.length) : rd l k ∈ l := by
  simp [rd, List.getD_eq_getElem?_getD, h]
/-- Each element is within 2000. -/
def Small (l : List Int) : Prop := ∀ x ∈ l, -2000 ≤ x ∧ x ≤ 2000
set_option maxHeartbeats 400000 in
set_option maxRecDepth 100000 in
theorem Dot_calls (A A' : Option Addr) (c c' : Nat) (l l' : List Int) (w : World) (hr : Kd.C (Kd.int .i64) w A l.length l) (hr' : Kd.C (Kd.int .i64) w A' l'.length l') (hl : l.length = l'.length) (hs : Small l) (hs' : Small l') (hn : l.length ≤ 1000) :
    Calls Try.prog 57 #[.slice A l.length c, .slice A' l'.length c'] w fun e w' => e = .returned (.int .i64 (vdot l l')) ∧ w = w' := by
  have HR := Aside0.mk hr
  have HR' := Aside0.mk hr'
  have HL := Aside0.mk hl
  have HS := Aside0.mk hs
  have HS' := Aside0.mk hs'
  have hm := hr.2.1
  have hm' := hr'.2.1
  clear hr hr' hl hs hs'
  generalize hT : vdot l l' = T
  have HT0 : Aside0 (vdotF 0 l l' = T) := ⟨hT⟩
  clear hT
  go_enter Try.func57, Try.ntmps57
  go_wp2
  go_loop [5, 10] (fun v5 v10 => ∃ (k : Nat) (t : Int), v5 = .int .i64 t ∧ v10 = .int .i64 k ∧ k ≤ l.length ∧ -(4000000 * (k : Int)) ≤ t ∧ t ≤ 4000000 * (k : Int) ∧ Aside0 (vdotF t (l.drop k) (l'.drop k) = T)) (fun _ v10 => l.length - (intOf v10).toNat)
  case atStart => exact ⟨0, 0, rfl, rfl, by omega, by omega, by omega, ⟨HT0.out⟩⟩
  case round =>
    obtain ⟨k, t, rfl, rfl, hk, h1, h2, HT⟩ := hrel
    by_cases hlt : k < l.length
    · have hlt' : k < l'.length := by have := HL.out; omega
      have hq : (k : Int) < (l.length : Int) := by omega
      have hq' : (k : Int) < (l'.length : Int) := by omega
      obtain ⟨ad, e, hx⟩ := Kd.at_int HR.out k (by omega) hq
      cases e
      obtain ⟨ad', e, hx'⟩ := Kd.at_int HR'.out k (by omega) hq'
      cases e
      rw [Int.toNat_natCast] at hx hx'
      have HSt := Aside0.mk (vdotF_step HT.out hlt hlt')
      have hp := mul_bd (HS.out _ (rd_mem' hlt)) (HS'.out _ (rd_mem' hlt'))
      obtain ⟨hp1, hp2⟩ := hp
      generalize rd l k = x at *
      generalize rd l' k = y at *
      go_wp2
      go_round
      case rel => exact ⟨k + 1, _, rfl, by go_num, by omega, by omega, by omega, HSt⟩
      case measure => simp [intOf]; omega
    · have HE := Aside0.mk (vdotF_end HT.out hlt)
      go_wp2
      go_ret
      exact ⟨by rw [← HE.out]; rfl, rfl⟩
theorem wrap_in {x : Int} (h1 : -1000000000000 ≤ x) (h2 : x ≤ 1000000000000) : IntKind.i64.wrap x = x := by
  simp [IntKind.wrap, IntKind.bits, IntKind.signed]; omega
set_option maxHeartbeats 400000 in
set_option maxRecDepth 100000 in
theorem refDot_calls (A A' : Option Addr) (c c' : Nat) (l l' : List Int) (w : World) (hr : Kd.C (Kd.int .i64) w A l.length l) (hr' : Kd.C (Kd.int .i64) w A' l'.length l') (hl : l.length = l'.length) (hs : Small l) (hs' : Small l') (hn : l.length ≤ 1000) :
    Calls Try.prog 58 #[.slice A l.length c, .slice A' l'.length c'] w fun e w' => e = .returned (.int .i64 (vdot l l')) ∧ Drawn0 w w' := by
  have HR := Aside0.mk hr
  have HR' := Aside0.mk hr'
  have HL := Aside0.mk hl
  have HS := Aside0.mk hs
  have HS' := Aside0.mk hs'
  have hm := hr.2.1
  have hm' := hr'.2.1
  clear hr hr' hl hs hs'
  generalize hT : vdot l l' = T
  have HT0 : Aside0 (vdotF 0 l l' = T) := ⟨hT⟩
  clear hT
  go_enter Try.func58, Try.ntmps58
  go_wp2
  go_loopw [5, 6] (fun v5 v6 wr => ∃ (k : Nat) (t : Int), v5 = .int .i64 t ∧ v6 = .int .i64 k ∧ k ≤ l.length ∧ -(4000000 * (k : Int)) ≤ t ∧ t ≤ 4000000 * (k : Int) ∧ Aside0 (vdotF t (l.drop k) (l'.drop k) = T) ∧ Drawn0 w wr) (fun _ v6 _ => l.length - (intOf v6).toNat)
  case atStart => exact ⟨0, 0, rfl, rfl, by omega, by omega, by omega, ⟨HT0.out⟩, Drawn0.refl _⟩
  case round =>
    obtain ⟨k, t, rfl, rfl, hk, h1, h2, HT, ⟨m, rfl⟩⟩ := hrel
    by_cases hlt : k < l.length
    · have hlt' : k < l'.length := by have := HL.out; omega
      have hq : (k : Int) < (l.length : Int) := by omega
      have hq' : (k : Int) < (l'.length : Int) := by omega
      obtain ⟨ad, e, hx⟩ := Kd.at_int HR.out k (by omega) hq
      cases e
      obtain ⟨ad', e, hx'⟩ := Kd.at_int HR'.out k (by omega) hq'
      cases e
      rw [Int.toNat_natCast] at hx hx'
      have HSt := Aside0.mk (vdotF_step HT.out hlt hlt')
      have hp := mul_bd (HS.out _ (rd_mem' hlt)) (HS'.out _ (rd_mem' hlt'))
      obtain ⟨hp1, hp2⟩ := hp
      generalize rd l k = x at *
      generalize rd l' k = y at *
      have hw1 : IntKind.i64.wrap (x * y) = x * y := wrap_in (by omega) (by omega)
      have hw2 : IntKind.i64.wrap (t + x * y) = t + x * y := wrap_in (by omega) (by omega)
      go_wp2
      go_quiet (fail)
      clear hw1 hw2
      go_wp2
      go_roundw
      case rel => exact ⟨k + 1, _, rfl, by go_num, by omega, by omega, by omega, HSt, (Drawn0.refl w).step _⟩
      case measure => simp [intOf]; omega
    · have HE := Aside0.mk (vdotF_end HT.out hlt)
      go_wp2
      go_ret
      exact ⟨by rw [← HE.out]; rfl, (Drawn0.refl _).step m⟩
set_option maxHeartbeats 400000 in
set_option maxRecDepth 100000 in
theorem size_calls (x : Int) (hx : -9000000000000000000 ≤ x ∧ x ≤ 9000000000000000000) (w : World) : Calls Try.prog 91 #[.int .i64 x] w fun e w' => e = .returned (.int .i64 (max x (-x))) ∧ w = w' := by
  obtain ⟨h1, h2⟩ := hx
  by_cases h : x < 0
  · have hf : Aside0 (max x (-x) = -x) := ⟨by omega⟩
    go_enter Try.func91, Try.ntmps91
    go_wp2
    go_ret
    exact ⟨by rw [hf.out]; rfl, rfl⟩
  · have hf : Aside0 (max x (-x) = x) := ⟨by omega⟩
    go_enter Try.func91, Try.ntmps91
    go_wp2
    go_ret
    exact ⟨by rw [hf.out]; rfl, rfl⟩
theorem ret_int' {a b : Int} (h : a = b) : Ending.returned (.int .i64 a) = .returned (.int .i64 b) := by rw [h]
theorem vst1 (n x : Int) : vst 1 n x = n + max x (-x) := by simp [vst]
theorem vst2 (n x : Int) : vst 2 n x = n + x * x := by simp [vst]
theorem vst3 (n x : Int) : vst 3 n x = max (max n x) (-x) := by simp [vst]
set_option maxHeartbeats 400000 in
set_option maxRecDepth 100000 in
theorem n1_calls (n x : Int) (hn : -1000000000000 ≤ n ∧ n ≤ 1000000000000) (hx : -2000 ≤ x ∧ x ≤ 2000) (w : World) : Calls Try.prog 87 #[.int .i64 n, .int .i64 x] w fun e w' => e = .returned (.int .i64 (vst 1 n x)) ∧ w = w' := by
  obtain ⟨h1, h2⟩ := hx
  obtain ⟨h3, h4⟩ := hn
  have HV := Aside0.mk (vst1 n x)
  go_enter Try.func87, Try.ntmps87
  go_wp2
  all_goals
    go_ret
    exact ⟨ret_int' (by rw [HV.out]; omega), rfl⟩
set_option maxHeartbeats 400000 in
set_option maxRecDepth 100000 in
theorem n2_calls (n x : Int) (hn : -1000000000000 ≤ n ∧ n ≤ 1000000000000) (hx : -2000 ≤ x ∧ x ≤ 2000) (w : World) : Calls Try.prog 88 #[.int .i64 n, .int .i64 x] w fun e w' => e = .returned (.int .i64 (vst 2 n x)) ∧ w = w' := by
  obtain ⟨h1, h2⟩ := mul_bd hx hx
  obtain ⟨h3, h4⟩ := hn
  have HV := Aside0.mk (vst2 n x)
  go_enter Try.func88, Try.ntmps88
  go_wp2
  go_ret
  exact ⟨by rw [HV.out]; rfl, rfl⟩
set_option maxHeartbeats 400000 in
set_option maxRecDepth 100000 in
theorem n3_calls (n x : Int) (hn : -1000000000000 ≤ n ∧ n ≤ 1000000000000) (hx : -2000 ≤ x ∧ x ≤ 2000) (w : World) : Calls Try.prog 89 #[.int .i64 n, .int .i64 x] w fun e w' => e = .returned (.int .i64 (vst 3 n x)) ∧ w = w' := by
  obtain ⟨h1, h2⟩ := hx
  obtain ⟨h3, h4⟩ := hn
  have HV := Aside0.mk (vst3 n x)
  go_enter Try.func89, Try.ntmps89
  go_wp2
  all_goals
    go_ret
    exact ⟨ret_int' (by rw [HV.out]; omega), rfl⟩
/-- What a step of a norm can reach. -/
theorem vst_bd {m n x B : Int} (hB : 0 ≤ B) (hn : 0 ≤ n ∧ n ≤ B) (hx : -2000 ≤ x ∧ x ≤ 2000) : 0 ≤ vst m n x ∧ vst m n x ≤ B + 4000000 := by
  have h1 := (mul_bd hx hx).2
  have h2 := sq_nonneg x
  unfold vst
  split
  · omega
  · split
    · omega
    · omega
set_option maxHeartbeats 400000 in
set_option maxRecDepth 100000 in
theorem fold1_calls (A : Option Addr) (c : Nat) (l : List Int) (w : World) (hr : Kd.C (Kd.int .i64) w A l.length l) (hs : Small l) (hn : l.length ≤ 1000) :
    Calls Try.prog 90 #[.slice A l.length c, .int .i64 0, .func (.func 87) #[] #[]] w fun e w' => e = .returned (.int .i64 (vnorm 1 l)) ∧ w = w' := by
  have HR := Aside0.mk hr
  have HS := Aside0.mk hs
  have hm := hr.2.1
  clear hr hs
  generalize hT : vnorm 1 l = T
  have HT0 : Aside0 (l.foldl (vst 1) 0 = T) := ⟨hT⟩
  clear hT
  go_enter Try.func90, Try.ntmps90
  go_wp2
  go_loop [1, 11] (fun v1 v11 => ∃ (k : Nat) (t : Int), v1 = .int .i64 t ∧ v11 = .int .i64 k ∧ k ≤ l.length ∧ 0 ≤ t ∧ t ≤ 4000000 * (k : Int) ∧ Aside0 ((l.drop k).foldl (vst 1) t = T)) (fun _ v11 => l.length - (intOf v11).toNat)
  case atStart => exact ⟨0, 0, rfl, rfl, by omega, by omega, by omega, ⟨HT0.out⟩⟩
  case round =>
    obtain ⟨k, t, rfl, rfl, hk, h1, h2, HT⟩ := hrel
    by_cases hlt : k < l.length
    · have hq : (k : Int) < (l.length : Int) := by omega
      obtain ⟨ad, e, hx⟩ := Kd.at_int HR.out k (by omega) hq
      cases e
      rw [Int.toNat_natCast] at hx
      have HSt := Aside0.mk (fold_step HT.out hlt)
      have HX := Aside0.mk (HS.out _ (rd_mem' hlt))
      generalize rd l k = x at *
      go_wp2_with fail
      refine (n1_calls t x ⟨by omega, by omega⟩ HX.out _).mono ?_
      rintro e w1 ⟨rfl, rfl⟩
      obtain ⟨h3, h4⟩ := vst_bd (m := 1) (by omega) ⟨h1, h2⟩ HX.out
      generalize vst 1 t x = y at *
      go_wp2
      go_round
      case rel => exact ⟨k + 1, _, rfl, by go_num, by omega, by omega, by omega, HSt⟩
      case measure => simp [intOf]; omega
    · have HE := Aside0.mk (fold_end HT.out hlt)
      go_wp2
      go_ret
      exact ⟨by rw [← HE.out]; rfl, rfl⟩
set_option maxHeartbeats 400000 in
set_option maxRecDepth 100000 in
theorem fold2_calls (A : Option Addr) (c : Nat) (l : List Int) (w : World) (hr : Kd.C (Kd.int .i64) w A l.length l) (hs : Small l) (hn : l.length ≤ 1000) :
    Calls Try.prog 90 #[.slice A l.length c, .int .i64 0, .func (.func 88) #[] #[]] w fun e w' => e = .returned (.int .i64 (vnorm 2 l)) ∧ w = w' := by
  have HR := Aside0.mk hr
  have HS := Aside0.mk hs
  have hm := hr.2.1
  clear hr hs
  generalize hT : vnorm 2 l = T
  have HT0 : Aside0 (l.foldl (vst 2) 0 = T) := ⟨hT⟩
  clear hT
  go_enter Try.func90, Try.ntmps90
  go_wp2
  go_loop [1, 11] (fun v1 v11 => ∃ (k : Nat) (t : Int), v1 = .int .i64 t ∧ v11 = .int .i64 k ∧ k ≤ l.length ∧ 0 ≤ t ∧ t ≤ 4000000 * (k : Int) ∧ Aside0 ((l.drop k).foldl (vst 2) t = T)) (fun _ v11 => l.length - (intOf v11).toNat)
  case atStart => exact ⟨0, 0, rfl, rfl, by omega, by omega, by omega, ⟨HT0.out⟩⟩
  case round =>
    obtain ⟨k, t, rfl, rfl, hk, h1, h2, HT⟩ := hrel
    by_cases hlt : k < l.length
    · have hq : (k : Int) < (l.length : Int) := by omega
      obtain ⟨ad, e, hx⟩ := Kd.at_int HR.out k (by omega) hq
      cases e
      rw [Int.toNat_natCast] at hx
      have HSt := Aside0.mk (fold_step HT.out hlt)
      have HX := Aside0.mk (HS.out _ (rd_mem' hlt))
      generalize rd l k = x at *
      go_wp2_with fail
      refine (n2_calls t x ⟨by omega, by omega⟩ HX.out _).mono ?_
      rintro e w1 ⟨rfl, rfl⟩
      obtain ⟨h3, h4⟩ := vst_bd (m := 2) (by omega) ⟨h1, h2⟩ HX.out
      generalize vst 2 t x = y at *
      go_wp2
      go_round
      case rel => exact ⟨k + 1, _, rfl, by go_num, by omega, by omega, by omega, HSt⟩
      case measure => simp [intOf]; omega
    · have HE := Aside0.mk (fold_end HT.out hlt)
      go_wp2
      go_ret
      exact ⟨by rw [← HE.out]; rfl, rfl⟩
set_option maxHeartbeats 400000 in
set_option maxRecDepth 100000 in
theorem fold3_calls (A : Option Addr) (c : Nat) (l : List Int) (w : World) (hr : Kd.C (Kd.int .i64) w A l.length l) (hs : Small l) (hn : l.length ≤ 1000) :
    Calls Try.prog 90 #[.slice A l.length c, .int .i64 0, .func (.func 89) #[] #[]] w fun e w' => e = .returned (.int .i64 (vnorm 3 l)) ∧ w = w' := by
  have HR := Aside0.mk hr
  have HS := Aside0.mk hs
  have hm := hr.2.1
  clear hr hs
  generalize hT : vnorm 3 l = T
  have HT0 : Aside0 (l.foldl (vst 3) 0 = T) := ⟨hT⟩
  clear hT
  go_enter Try.func90, Try.ntmps90
  go_wp2
  go_loop [1, 11] (fun v1 v11 => ∃ (k : Nat) (t : Int), v1 = .int .i64 t ∧ v11 = .int .i64 k ∧ k ≤ l.length ∧ 0 ≤ t ∧ t ≤ 4000000 * (k : Int) ∧ Aside0 ((l.drop k).foldl (vst 3) t = T)) (fun _ v11 => l.length - (intOf v11).toNat)
  case atStart => exact ⟨0, 0, rfl, rfl, by omega, by omega, by omega, ⟨HT0.out⟩⟩
  case round =>
    obtain ⟨k, t, rfl, rfl, hk, h1, h2, HT⟩ := hrel
    by_cases hlt : k < l.length
    · have hq : (k : Int) < (l.length : Int) := by omega
      obtain ⟨ad, e, hx⟩ := Kd.at_int HR.out k (by omega) hq
      cases e
      rw [Int.toNat_natCast] at hx
      have HSt := Aside0.mk (fold_step HT.out hlt)
      have HX := Aside0.mk (HS.out _ (rd_mem' hlt))
      generalize rd l k = x at *
      go_wp2_with fail
      refine (n3_calls t x ⟨by omega, by omega⟩ HX.out _).mono ?_
      rintro e w1 ⟨rfl, rfl⟩
      obtain ⟨h3, h4⟩ := vst_bd (m := 3) (by omega) ⟨h1, h2⟩ HX.out
      generalize vst 3 t x = y at *
      go_wp2
      go_round
      case rel => exact ⟨k + 1, _, rfl, by go_num, by omega, by omega, by omega, HSt⟩
      case measure => simp [intOf]; omega
    · have HE := Aside0.mk (fold_end HT.out hlt)
      go_wp2
      go_ret
      exact ⟨by rw [← HE.out]; rfl, rfl⟩
/-- One step, in the specification's way. -/
theorem vst3' {n x : Int} (h : 0 ≤ n) : max n (max x (-x)) = vst 3 n x := by rw [vst3]; omega
set_option maxHeartbeats 400000 in
set_option maxRecDepth 100000 in
theorem refNorm1_calls (A : Option Addr) (c : Nat) (l : List Int) (w : World) (hr : Kd.C (Kd.int .i64) w A l.length l) (hs : Small l) (hn : l.length ≤ 1000) :
    Calls Try.prog 63 #[.int .i64 1, .slice A l.length c] w fun e w' => e = .returned (.int .i64 (vnorm 1 l)) ∧ Drawn0 w w' := by
  have HR := Aside0.mk hr
  have HS := Aside0.mk hs
  have hm := hr.2.1
  clear hr hs
  generalize hT : vnorm 1 l = T
  have HT0 : Aside0 (l.foldl (vst 1) 0 = T) := ⟨hT⟩
  clear hT
  go_enter Try.func63, Try.ntmps63
  go_wp2
  go_loopw [5, 6] (fun v5 v6 wr => ∃ (k : Nat) (t : Int), v5 = .int .i64 t ∧ v6 = .int .i64 k ∧ k ≤ l.length ∧ 0 ≤ t ∧ t ≤ 4000000 * (k : Int) ∧ Aside0 ((l.drop k).foldl (vst 1) t = T) ∧ Drawn0 w wr) (fun _ v6 _ => l.length - (intOf v6).toNat)
  case atStart => exact ⟨0, 0, rfl, rfl, by omega, by omega, by omega, ⟨HT0.out⟩, Drawn0.refl _⟩
  case round =>
    obtain ⟨k, t, rfl, rfl, hk, h1, h2, HT, ⟨d, rfl⟩⟩ := hrel
    by_cases hlt : k < l.length
    · have hq : (k : Int) < (l.length : Int) := by omega
      obtain ⟨ad, e, hx⟩ := Kd.at_int HR.out k (by omega) hq
      cases e
      rw [Int.toNat_natCast] at hx
      have HSt := Aside0.mk (fold_step HT.out hlt)
      have HX := Aside0.mk (HS.out _ (rd_mem' hlt))
      generalize rd l k = x at *
      have hx1 := HX.out.1
      have hx2 := HX.out.2
      obtain ⟨h3, h4⟩ := mul_bd HX.out HX.out
      have h5 := sq_nonneg x
      go_wp2_with fail
      refine (size_calls x ⟨by omega, by omega⟩ _).mono ?_
      rintro e w1 ⟨rfl, rfl⟩
      rw [vst1] at HSt
      have h6 : 0 ≤ max x (-x) := by omega
      have h7 : max x (-x) ≤ 2000 := by omega
      generalize max x (-x) = y at *
      go_wp2
      go_roundw
      case rel => exact ⟨k + 1, _, rfl, by go_num, by omega, by omega, by omega, HSt, (Drawn0.refl w).step _⟩
      case measure => simp [intOf]; omega
    · have HE := Aside0.mk (fold_end HT.out hlt)
      go_wp2
      go_ret
      exact ⟨by rw [← HE.out]; rfl, (Drawn0.refl _).step d⟩
set_option maxHeartbeats 400000 in
set_option maxRecDepth 100000 in
theorem refNorm2_calls (A : Option Addr) (c : Nat) (l : List Int) (w : World) (hr : Kd.C (Kd.int .i64) w A l.length l) (hs : Small l) (hn : l.length ≤ 1000) :
    Calls Try.prog 63 #[.int .i64 2, .slice A l.length c] w fun e w' => e = .returned (.int .i64 (vnorm 2 l)) ∧ Drawn0 w w' := by
  have HR := Aside0.mk hr
  have HS := Aside0.mk hs
  have hm := hr.2.1
  clear hr hs
  generalize hT : vnorm 2 l = T
  have HT0 : Aside0 (l.foldl (vst 2) 0 = T) := ⟨hT⟩
  clear hT
  go_enter Try.func63, Try.ntmps63
  go_wp2
  go_loopw [5, 6] (fun v5 v6 wr => ∃ (k : Nat) (t : Int), v5 = .int .i64 t ∧ v6 = .int .i64 k ∧ k ≤ l.length ∧ 0 ≤ t ∧ t ≤ 4000000 * (k : Int) ∧ Aside0 ((l.drop k).foldl (vst 2) t = T) ∧ Drawn0 w wr) (fun _ v6 _ => l.length - (intOf v6).toNat)
  case atStart => exact ⟨0, 0, rfl, rfl, by omega, by omega, by omega, ⟨HT0.out⟩, Drawn0.refl _⟩
  case round =>
    obtain ⟨k, t, rfl, rfl, hk, h1, h2, HT, ⟨d, rfl⟩⟩ := hrel
    by_cases hlt : k < l.length
    · have hq : (k : Int) < (l.length : Int) := by omega
      obtain ⟨ad, e, hx⟩ := Kd.at_int HR.out k (by omega) hq
      cases e
      rw [Int.toNat_natCast] at hx
      have HSt := Aside0.mk (fold_step HT.out hlt)
      have HX := Aside0.mk (HS.out _ (rd_mem' hlt))
      generalize rd l k = x at *
      have hx1 := HX.out.1
      have hx2 := HX.out.2
      obtain ⟨h3, h4⟩ := mul_bd HX.out HX.out
      have h5 := sq_nonneg x
      rw [vst2] at HSt
      have hw1 : IntKind.i64.wrap (x * x) = x * x := wrap_in (by omega) (by omega)
      have hw2 : IntKind.i64.wrap (t + x * x) = t + x * x := wrap_in (by omega) (by omega)
      go_wp2
      go_quiet (fail)
      clear hw1 hw2
      go_wp2
      go_roundw
      case rel => exact ⟨k + 1, _, rfl, by go_num, by omega, by omega, by omega, HSt, (Drawn0.refl w).step _⟩
      case measure => simp [intOf]; omega
    · have HE := Aside0.mk (fold_end HT.out hlt)
      go_wp2
      go_ret
      exact ⟨by rw [← HE.out]; rfl, (Drawn0.refl _).step d⟩
set_option maxHeartbeats 400000 in
set_option maxRecDepth 100000 in
theorem refNorm3_calls (A : Option Addr) (c : Nat) (l : List Int) (w : World) (hr : Kd.C (Kd.int .i64) w A l.length l) (hs : Small l) (hn : l.length ≤ 1000) :
    Calls Try.prog 63 #[.int .i64 3, .slice A l.length c] w fun e w' => e = .returned (.int .i64 (vnorm 3 l)) ∧ Drawn0 w w' := by
  have HR := Aside0.mk hr
  have HS := Aside0.mk hs
  have hm := hr.2.1
  clear hr hs
  generalize hT : vnorm 3 l = T
  have HT0 : Aside0 (l.foldl (vst 3) 0 = T) := ⟨hT⟩
  clear hT
  go_enter Try.func63, Try.ntmps63
  go_wp2
  go_loopw [5, 6] (fun v5 v6 wr => ∃ (k : Nat) (t : Int), v5 = .int .i64 t ∧ v6 = .int .i64 k ∧ k ≤ l.length ∧ 0 ≤ t ∧ t ≤ 4000000 * (k : Int) ∧ Aside0 ((l.drop k).foldl (vst 3) t = T) ∧ Drawn0 w wr) (fun _ v6 _ => l.length - (intOf v6).toNat)
  case atStart => exact ⟨0, 0, rfl, rfl, by omega, by omega, by omega, ⟨HT0.out⟩, Drawn0.refl _⟩
  case round =>
    obtain ⟨k, t, rfl, rfl, hk, h1, h2, HT, ⟨d, rfl⟩⟩ := hrel
    by_cases hlt : k < l.length
    · have hq : (k : Int) < (l.length : Int) := by omega
      obtain ⟨ad, e, hx⟩ := Kd.at_int HR.out k (by omega) hq
      cases e
      rw [Int.toNat_natCast] at hx
      have HSt := Aside0.mk (fold_step HT.out hlt)
      have HX := Aside0.mk (HS.out _ (rd_mem' hlt))
      generalize rd l k = x at *
      have hx1 := HX.out.1
      have hx2 := HX.out.2
      obtain ⟨h3, h4⟩ := mul_bd HX.out HX.out
      have h5 := sq_nonneg x
      go_wp2_with fail
      refine (size_calls x ⟨by omega, by omega⟩ _).mono ?_
      rintro e w1 ⟨rfl, rfl⟩
      rw [← vst3' h1] at HSt
      have h6 : 0 ≤ max x (-x) := by omega
      have h7 : max x (-x) ≤ 2000 := by omega
      generalize max x (-x) = y at *
      by_cases h8 : t < y
      · rw [show max t y = y by omega] at HSt
        go_wp2
        go_roundw
        case rel => exact ⟨k + 1, _, rfl, by go_num, by omega, by omega, by omega, HSt, (Drawn0.refl w).step _⟩
        case measure => simp [intOf]; omega
      · rw [show max t y = t by omega] at HSt
        go_wp2
        go_roundw
        case rel => exact ⟨k + 1, _, rfl, by go_num, by omega, by omega, by omega, HSt, (Drawn0.refl w).step _⟩
        case measure => simp [intOf]; omega
    · have HE := Aside0.mk (fold_end HT.out hlt)
      go_wp2
      go_ret
      exact ⟨by rw [← HE.out]; rfl, (Drawn0.refl _).step d⟩
theorem refNorm_calls {m : Int} (hmet : 1 ≤ m ∧ m ≤ 3) (A : Option Addr) (c : Nat) (l : List Int) (w : World) (hr : Kd.C (Kd.int .i64) w A l.length l) (hs : Small l) (hn : l.length ≤ 1000) :
    Calls Try.prog 63 #[.int .i64 m, .slice A l.length c] w fun e w' => e = .returned (.int .i64 (vnorm m l)) ∧ Drawn0 w w' := by
  rcases (show m = 1 ∨ m = 2 ∨ m = 3 by omega) with rfl | rfl | rfl
  · exact refNorm1_calls A c l w hr hs hn
  · exact refNorm2_calls A c l w hr hs hn
  · exact refNorm3_calls A c l w hr hs hn
end Go.Proofs.Ytfngbmcedkncjaa
namespace Go.Proofs.Ytfngbmcedkncjaa
open Go.RowKit Go.Proofs.YtfngbmcedkncjaaW.PrintWords Go.Proofs.YtfngbmcedkncjaaW.PrintLast Go.Proofs.YtfngbmcedkncjaaW.PrintMore Plain
open Go.Maps
set_option linter.unusedVariables false
set_option linter.unusedSimpArgs false
/-- A closure without captures, read as its number. -/
def cloR : Value → Option (DataW Unit × List MemPlace)
  | .func (.func n) ⟨[]⟩ ⟨[]⟩ => some (.lit (.int .i64 n), [])
  | .nilFunc => some (.lit (.int .i64 (-1)), [])
  | _ => none
theorem cloR_inv {v : Value} {n : Nat} {ps : List MemPlace} (h : cloR v = some (.lit (.int .i64 n), ps)) : v = .func (.func n) #[] #[] := by
  unfold cloR at h
  split at h
  · rename_i m
    simp only [Option.some.injEq, Prod.mk.injEq, DataW.lit.injEq, Lit.int.injEq, true_and] at h
    have e : m = n := Int.ofNat.inj h.1
    rw [e]
  · simp only [Option.some.injEq, Prod.mk.injEq, DataW.lit.injEq, Lit.int.injEq, true_and] at h
    omega
  · cases h
theorem key3 : Keyed Try.prog 3 := int_keyed Try.underlying3
theorem norm_map (w : World) : ∃ w1 w2 w3, (Instr.mapUpdate 94 (.map (some w.heap.size)) (.int .i64 1) (.func (.func 87) #[] #[])).run Try.prog (w.alloc (.map #[] 0)) = .ok () w1 ∧
    (Instr.mapUpdate 94 (.map (some w.heap.size)) (.int .i64 2) (.func (.func 88) #[] #[])).run Try.prog w1 = .ok () w2 ∧
    (Instr.mapUpdate 94 (.map (some w.heap.size)) (.int .i64 3) (.func (.func 89) #[] #[])).run Try.prog w2 = .ok () w3 ∧
    (Instr.lookup 94 (.map (some w.heap.size)) (.int .i64 1) false).run Try.prog w3 = .ok (.func (.func 87) #[] #[]) w3 ∧
    (Instr.lookup 94 (.map (some w.heap.size)) (.int .i64 2) false).run Try.prog w3 = .ok (.func (.func 88) #[] #[]) w3 ∧
    (Instr.lookup 94 (.map (some w.heap.size)) (.int .i64 3) false).run Try.prog w3 = .ok (.func (.func 89) #[] #[]) w3 ∧ Bel w.heap.size w w3 := by
  have h0 := World.ownsMap_made (H := Unit) w Try.prog 3 cloR
  have ht : Try.prog.underlying 94 = some (.map 3 92) := by kernel_rfl
  have hz : ∀ w : World, (zeroValue 92).run Try.prog w = .ok .nilFunc w := fun w => by kernel_rfl
  have hk : ∀ n : Int, (Lit.int .i64 n).wf = true → keyOf Try.prog 3 (.int .i64 n) = some (.int .i64 n) := fun n h => keyOf_int_mk Try.underlying3 h
  obtain ⟨w1, e1, h1, g1⟩ := h0.update key3 ht (by unfold maxLen; omega) (hk 1 rfl) (val := .func (.func 87) #[] #[]) rfl
  obtain ⟨w2, e2, h2, g2⟩ := h1.update key3 ht (by unfold maxLen; omega) (hk 2 rfl) (val := .func (.func 88) #[] #[]) rfl
  obtain ⟨w3, e3, h3, g3⟩ := h2.update key3 ht (by unfold maxLen; omega) (hk 3 rfl) (val := .func (.func 89) #[] #[]) rfl
  obtain ⟨v1, p1, r1, q1⟩ := h3.lookup key3 ht (hz w3) (zd := .lit (.int .i64 (-1))) (zp := []) rfl (hk 1 rfl)
  obtain ⟨v2, p2, r2, q2⟩ := h3.lookup key3 ht (hz w3) (zd := .lit (.int .i64 (-1))) (zp := []) rfl (hk 2 rfl)
  obtain ⟨v3, p3, r3, q3⟩ := h3.lookup key3 ht (hz w3) (zd := .lit (.int .i64 (-1))) (zp := []) rfl (hk 3 rfl)
  obtain rfl := cloR_inv (n := 87) q1
  obtain rfl := cloR_inv (n := 88) q2
  obtain rfl := cloR_inv (n := 89) q3
  refine ⟨w1, w2, w3, e1, e2, e3, r1, r2, r3, ⟨?_⟩⟩
  have b0 : Below w.heap.size w (w.alloc (.map #[] 0)) := (Below.refl _ _).alloc (Nat.le_refl _) _
  have b1 := pw_below_grown b0 _ b0.size g1 (by rintro k hk; cases hk; exact Nat.le_refl _)
  have b2 := pw_below_grown b1 _ b1.size g2 (by rintro k hk; cases hk; exact Nat.le_refl _)
  exact pw_below_grown b2 _ b2.size g3 (by rintro k hk; cases hk; exact Nat.le_refl _)
set_option maxHeartbeats 400000 in
set_option maxRecDepth 100000 in
theorem Norm1_calls (A : Option Addr) (c : Nat) (l : List Int) (w : World) (hr : Kd.C (Kd.int .i64) w A l.length l) (hs : Small l) (hn : l.length ≤ 1000) :
    Calls Try.prog 62 #[.int .i64 1, .slice A l.length c] w fun e w' => e = .returned (.int .i64 (vnorm 1 l)) ∧ Bel w.heap.size w w' := by
  obtain ⟨w1, w2, w3, e1, e2, e3, r1, r2, r3, hb⟩ := norm_map w
  have H := Aside0.mk (fold1_calls A c l w3 (Kd.C_below hr hb.out) hs hn)
  have hm := @run_makeMap Try.prog
  clear hr hs hn r2 r3
  go_enter Try.func62, Try.ntmps62
  go_wp2_with fail
  refine H.out.mono ?_
  rintro e w4 ⟨rfl, rfl⟩
  go_wp2
  go_ret
  exact ⟨rfl, hb⟩
set_option maxHeartbeats 400000 in
set_option maxRecDepth 100000 in
theorem Norm2_calls (A : Option Addr) (c : Nat) (l : List Int) (w : World) (hr : Kd.C (Kd.int .i64) w A l.length l) (hs : Small l) (hn : l.length ≤ 1000) :
    Calls Try.prog 62 #[.int .i64 2, .slice A l.length c] w fun e w' => e = .returned (.int .i64 (vnorm 2 l)) ∧ Bel w.heap.size w w' := by
  obtain ⟨w1, w2, w3, e1, e2, e3, r1, r2, r3, hb⟩ := norm_map w
  have H := Aside0.mk (fold2_calls A c l w3 (Kd.C_below hr hb.out) hs hn)
  have hm := @run_makeMap Try.prog
  clear hr hs hn r1 r3
  go_enter Try.func62, Try.ntmps62
  go_wp2_with fail
  refine H.out.mono ?_
  rintro e w4 ⟨rfl, rfl⟩
  go_wp2
  go_ret
  exact ⟨rfl, hb⟩
set_option maxHeartbeats 400000 in
set_option maxRecDepth 100000 in
theorem Norm3_calls (A : Option Addr) (c : Nat) (l : List Int) (w : World) (hr : Kd.C (Kd.int .i64) w A l.length l) (hs : Small l) (hn : l.length ≤ 1000) :
    Calls Try.prog 62 #[.int .i64 3, .slice A l.length c] w fun e w' => e = .returned (.int .i64 (vnorm 3 l)) ∧ Bel w.heap.size w w' := by
  obtain ⟨w1, w2, w3, e1, e2, e3, r1, r2, r3, hb⟩ := norm_map w
  have H := Aside0.mk (fold3_calls A c l w3 (Kd.C_below hr hb.out) hs hn)
  have hm := @run_makeMap Try.prog
  clear hr hs hn r1 r2
  go_enter Try.func62, Try.ntmps62
  go_wp2_with fail
  refine H.out.mono ?_
  rintro e w4 ⟨rfl, rfl⟩
  go_wp2
  go_ret
  exact ⟨rfl, hb⟩
theorem Norm_calls {m : Int} (hmet : 1 ≤ m ∧ m ≤ 3) (A : Option Addr) (c : Nat) (l : List Int) (w : World) (hr : Kd.C (Kd.int .i64) w A l.length l) (hs : Small l) (hn : l.length ≤ 1000) :
    Calls Try.prog 62 #[.int .i64 m, .slice A l.length c] w fun e w' => e = .returned (.int .i64 (vnorm m l)) ∧ Bel w.heap.size w w' := by
  rcases (show m = 1 ∨ m = 2 ∨ m = 3 by omega) with rfl | rfl | rfl
  · exact Norm1_calls A c l w hr hs hn
  · exact Norm2_calls A c l w hr hs hn
  · exact Norm3_calls A c l w hr hs hn
end Go.Proofs.Ytfngbmcedkncjaa
