/- The comparison of lists: isNaN (94), cmp.Compare (84), cmp.Or (83), slices.Compare (85), vector.Compare (51), the specification's (52), Same (54). cmp.Or (83) of two, vector.Compare (51), the specification's Compare (52), Same (54). cmp.Or (83) of two, vector.Compare (51). -/
import Derived.Test.YtfngbmcedkncjaaSameD
import Derived.Test.YtfngbmcedkncjaaLit
import Derived.Test.YtfngbmcedkncjaaVPlain
namespace Go.Proofs.Ytfngbmcedkncjaa
open Go.RowKit Go.Proofs.YtfngbmcedkncjaaW.PrintWords Go.Proofs.YtfngbmcedkncjaaW.PrintLast Go.Proofs.YtfngbmcedkncjaaW.PrintMore Plain
set_option linter.unusedVariables false
set_option linter.unusedSimpArgs false
theorem drop_at (l : List Int) (k : Nat) (h : k < l.length) : l.drop k = rd l k :: l.drop (k + 1) := drop_rd l k h
theorem sc_step {a b : List Int} {k : Nat} {T : Int} (h : sc (a.drop k) (b.drop k) = T) (ha : k < a.length) (hb : k < b.length) : (if rd a k < rd b k then (-1 : Int) else if rd b k < rd a k then 1 else sc (a.drop (k + 1)) (b.drop (k + 1))) = T := by
  rw [drop_at a k ha, drop_at b k hb] at h
  exact h

set_option maxHeartbeats 400000 in
set_option maxRecDepth 100000 in
theorem isNaN_calls (a : Int) (w : World) : Calls Try.prog 94 #[.int .i64 a] w fun e w' => e = .returned (.bool false) ∧ w = w' := by
  have h : (a != a) = false := by simp
  go_enter Try.func94, Try.ntmps94
  go_wp2
  go_ret
  exact ⟨by simp, rfl⟩
set_option maxHeartbeats 400000 in
set_option maxRecDepth 100000 in
theorem cmpCompare_calls (a b : Int) (w : World) : Calls Try.prog 84 #[.int .i64 a, .int .i64 b] w fun e w' => e = .returned (.int .i64 (cm a b)) ∧ w = w' := by
  by_cases h1 : a < b
  · have hf : Aside0 (cm a b = -1) := ⟨by simp [cm, h1]⟩
    go_enter Try.func84, Try.ntmps84
    go_wp2_with (go_at_call 94; refine (isNaN_calls _ _).mono ?_; rintro e w1 ⟨rfl, rfl⟩)
    go_ret
    exact ⟨by rw [hf.out]; rfl, rfl⟩
  · by_cases h2 : b < a
    · have hf : Aside0 (cm a b = 1) := ⟨by simp [cm, h1, h2]⟩
      go_enter Try.func84, Try.ntmps84
      go_wp2_with (go_at_call 94; refine (isNaN_calls _ _).mono ?_; rintro e w1 ⟨rfl, rfl⟩)
      go_ret
      exact ⟨by rw [hf.out]; rfl, rfl⟩
    · have hf : Aside0 (cm a b = 0) := ⟨by simp [cm, h1, h2]⟩
      go_enter Try.func84, Try.ntmps84
      go_wp2_with (go_at_call 94; refine (isNaN_calls _ _).mono ?_; rintro e w1 ⟨rfl, rfl⟩)
      go_ret
      exact ⟨by rw [hf.out]; rfl, rfl⟩
set_option maxHeartbeats 400000 in
set_option maxRecDepth 100000 in
theorem slicesCompare_calls (A A' : Option Addr) (c c' : Nat) (l l' : List Int) (w : World) (hr : Kd.C (Kd.int .i64) w A l.length l) (hr' : Kd.C (Kd.int .i64) w A' l'.length l') :
    Calls Try.prog 85 #[.slice A l.length c, .slice A' l'.length c'] w fun e w' => e = .returned (.int .i64 (sc l l')) ∧ w = w' := by
  have HR := Aside0.mk hr
  have HR' := Aside0.mk hr'
  have hm := hr.2.1
  have hm' := hr'.2.1
  clear hr hr'
  go_enter Try.func85, Try.ntmps85
  go_wp2
  go_loop [11] (fun v11 => ∃ k : Nat, v11 = .int .i64 k ∧ k ≤ l.length ∧ k ≤ l'.length ∧ Aside0 (sc (l.drop k) (l'.drop k) = sc l l')) (fun v11 => l.length - (intOf v11).toNat)
  case atStart => exact ⟨0, rfl, by omega, by omega, ⟨rfl⟩⟩
  case round =>
    obtain ⟨k, rfl, hk, hk', HT⟩ := hrel
    by_cases hlt : k < l.length
    · have hq : (k : Int) < (l.length : Int) := by omega
      obtain ⟨ad, e, hx⟩ := Kd.at_int HR.out k (by omega) hq
      cases e
      rw [Int.toNat_natCast] at hx
      by_cases hlt' : k < l'.length
      · have hq' : (k : Int) < (l'.length : Int) := by omega
        obtain ⟨ad', e, hx'⟩ := Kd.at_int HR'.out k (by omega) hq'
        cases e
        rw [Int.toNat_natCast] at hx'
        have HS := Aside0.mk (sc_step HT.out hlt hlt')
        generalize rd l k = x at *
        generalize rd l' k = y at *
        by_cases h1 : x < y
        · have hc : cm x y = -1 := by simp [cm, h1]
          rw [if_pos h1] at HS
          clear h1
          go_wp2_with (go_at_call 84; refine (cmpCompare_calls _ _ _).mono ?_; rintro e w1 ⟨rfl, rfl⟩; rw [hc])
          go_ret
          exact ⟨by rw [← HS.out]; rfl, rfl⟩
        · by_cases h2 : y < x
          · have hc : cm x y = 1 := by simp [cm, h1, h2]
            rw [if_neg h1, if_pos h2] at HS
            clear h1 h2
            go_wp2_with (go_at_call 84; refine (cmpCompare_calls _ _ _).mono ?_; rintro e w1 ⟨rfl, rfl⟩; rw [hc])
            go_ret
            exact ⟨by rw [← HS.out]; rfl, rfl⟩
          · have hc : cm x y = 0 := by simp [cm, h1, h2]
            rw [if_neg h1, if_neg h2] at HS
            clear h1 h2
            go_wp2_with (go_at_call 84; refine (cmpCompare_calls _ _ _).mono ?_; rintro e w1 ⟨rfl, rfl⟩; rw [hc])
            case roundEnd =>
              go_round
              case rel => exact ⟨k + 1, by go_num, by omega, by omega, HS⟩
              case measure => simp [intOf]; omega
      · have HS : Aside0 (1 = sc l l') := ⟨by
          have h := HT.out
          rw [drop_at l k hlt, List.drop_eq_nil_of_le (show l'.length ≤ k by omega)] at h
          exact h⟩
        have hge : (k : Int) ≥ (l'.length : Int) := by omega
        go_wp2
        go_ret
        exact ⟨by rw [← HS.out]; rfl, rfl⟩
    · by_cases hs : l.length < l'.length
      · have HS : Aside0 (-1 = sc l l') := ⟨by
          have h := HT.out
          rw [List.drop_eq_nil_of_le (show l.length ≤ k by omega), drop_at l' k (by omega)] at h
          exact h⟩
        go_wp2
        go_ret
        exact ⟨by rw [← HS.out]; rfl, rfl⟩
      · have HS : Aside0 (0 = sc l l') := ⟨by
          have h := HT.out
          rw [List.drop_eq_nil_of_le (show l.length ≤ k by omega), List.drop_eq_nil_of_le (show l'.length ≤ k by omega)] at h
          exact h⟩
        go_wp2
        go_ret
        exact ⟨by rw [← HS.out]; rfl, rfl⟩
end Go.Proofs.Ytfngbmcedkncjaa
namespace Go.Proofs.Ytfngbmcedkncjaa
open Go.RowKit Go.Proofs.YtfngbmcedkncjaaW.PrintWords Go.Proofs.YtfngbmcedkncjaaW.PrintLast Go.Proofs.YtfngbmcedkncjaaW.PrintMore Plain
set_option linter.unusedVariables false
set_option linter.unusedSimpArgs false
set_option maxHeartbeats 400000 in
set_option maxRecDepth 100000 in
theorem refCompare_calls (A A' : Option Addr) (c c' : Nat) (l l' : List Int) (w : World) (hr : Kd.C (Kd.int .i64) w A l.length l) (hr' : Kd.C (Kd.int .i64) w A' l'.length l') :
    Calls Try.prog 52 #[.slice A l.length c, .slice A' l'.length c'] w fun e w' => e = .returned (.int .i64 (vc l l')) ∧ Drawn0 w w' := by
  have HR := Aside0.mk hr
  have HR' := Aside0.mk hr'
  have hm := hr.2.1
  have hm' := hr'.2.1
  clear hr hr'
  by_cases h1 : l.length < l'.length
  · have hf : Aside0 (vc l l' = -1) := ⟨by simp [vc, h1]⟩
    go_enter Try.func52, Try.ntmps52
    go_wp2
    go_ret
    exact ⟨by rw [hf.out]; rfl, Drawn0.refl _⟩
  · by_cases h2 : l'.length < l.length
    · have hf : Aside0 (vc l l' = 1) := ⟨by simp [vc, h1, h2]⟩
      go_enter Try.func52, Try.ntmps52
      go_wp2
      go_ret
      exact ⟨by rw [hf.out]; rfl, Drawn0.refl _⟩
    · have hf : Aside0 (sc l l' = vc l l') := ⟨by simp [vc, h1, h2]⟩
      have HLL : Aside0 (l.length = l'.length) := ⟨by omega⟩
      go_enter Try.func52, Try.ntmps52
      go_wp2
      go_loopw [5] (fun v5 wr => ∃ k : Nat, v5 = .int .i64 k ∧ k ≤ l.length ∧ Aside0 (sc (l.drop k) (l'.drop k) = vc l l') ∧ Drawn0 w wr) (fun v5 _ => l.length - (intOf v5).toNat)
      case atStart => exact ⟨0, rfl, by omega, ⟨hf.out⟩, Drawn0.refl _⟩
      case round =>
        obtain ⟨k, rfl, hk, HT, ⟨m, rfl⟩⟩ := hrel
        by_cases hlt : k < l.length
        · have hlt' : k < l'.length := by have := HLL.out; omega
          have hq : (k : Int) < (l.length : Int) := by omega
          have hq' : (k : Int) < (l'.length : Int) := by omega
          obtain ⟨ad, e, hx⟩ := Kd.at_int HR.out k (by omega) hq
          cases e
          obtain ⟨ad', e, hx'⟩ := Kd.at_int HR'.out k (by omega) hq'
          cases e
          rw [Int.toNat_natCast] at hx hx'
          have HS := Aside0.mk (sc_step HT.out hlt hlt')
          generalize rd l k = x at *
          generalize rd l' k = y at *
          by_cases h3 : x < y
          · rw [if_pos h3] at HS
            go_wp2
            go_quiet (fail)
            go_wp2
            go_ret
            exact ⟨by rw [← HS.out]; rfl, by first | exact (Drawn0.refl w).step _ | exact ((Drawn0.refl w).step _).step _ | exact (((Drawn0.refl w).step _).step _).step _⟩
          · by_cases h4 : y < x
            · rw [if_neg h3, if_pos h4] at HS
              go_wp2
              go_quiet (fail)
              go_wp2
              go_quiet (fail)
              go_wp2
              go_ret
              exact ⟨by rw [← HS.out]; rfl, by first | exact (Drawn0.refl w).step _ | exact ((Drawn0.refl w).step _).step _ | exact (((Drawn0.refl w).step _).step _).step _⟩
            · rw [if_neg h3, if_neg h4] at HS
              go_wp2
              go_quiet (fail)
              go_wp2
              go_quiet (fail)
              go_wp2
              go_roundw
              case rel => exact ⟨k + 1, by go_num, by omega, HS, by first | exact (Drawn0.refl w).step _ | exact ((Drawn0.refl w).step _).step _ | exact (((Drawn0.refl w).step _).step _).step _⟩
              case measure => simp [intOf]; omega
        · have HS : Aside0 (0 = vc l l') := ⟨by
            have h := HT.out
            rw [List.drop_eq_nil_of_le (show l.length ≤ k by omega), List.drop_eq_nil_of_le (show l'.length ≤ k by omega)] at h
            exact h⟩
          go_wp2
          go_ret
          exact ⟨by rw [← HS.out]; rfl, (Drawn0.refl _).step m⟩
theorem vc_zero {a b : List Int} : (vc a b == 0) = decide (a = b) := by
  have key : ∀ a b : List Int, a.length = b.length → (sc a b = 0 ↔ a = b) := by
    intro a
    induction a with
    | nil => intro b h; cases b with
      | nil => simp [sc]
      | cons y b => simp at h
    | cons x a ih => intro b h; cases b with
      | nil => simp at h
      | cons y b =>
        simp only [List.length_cons, Nat.add_right_cancel_iff] at h
        unfold sc
        split
        · rename_i h1; simp; intro h2; omega
        · split
          · rename_i h1; simp; intro h2; omega
          · rw [ih b h, List.cons.injEq]
            constructor
            · intro h3; exact ⟨by omega, h3⟩
            · intro h3; exact h3.2
  rw [Bool.eq_iff_iff, beq_iff_eq, decide_eq_true_iff]
  unfold vc
  split
  · rename_i h; simp; intro h2; subst h2; omega
  · split
    · rename_i h; simp; intro h2; subst h2; omega
    · exact key a b (by omega)
set_option maxHeartbeats 400000 in
set_option maxRecDepth 100000 in
theorem refSame_calls (A A' : Option Addr) (c c' : Nat) (l l' : List Int) (w : World) (hr : Kd.C (Kd.int .i64) w A l.length l) (hr' : Kd.C (Kd.int .i64) w A' l'.length l') :
    Calls Try.prog 54 #[.slice A l.length c, .slice A' l'.length c'] w fun e w' => e = .returned (.bool (decide (l = l'))) ∧ Drawn0 w w' := by
  have H := Aside0.mk (refCompare_calls A A' c c' l l' w hr hr')
  have HZ := Aside0.mk (vc_zero (a := l) (b := l'))
  clear hr hr'
  generalize vc l l' = v at *
  go_enter Try.func54, Try.ntmps54
  go_wp2_with (go_at_call 52; refine H.out.mono ?_; rintro e w1 ⟨rfl, hd⟩)
  go_ret
  exact ⟨by rw [← HZ.out]; rfl, hd⟩
end Go.Proofs.Ytfngbmcedkncjaa
namespace Go.Proofs.Ytfngbmcedkncjaa
open Go.RowKit Go.Proofs.YtfngbmcedkncjaaW.PrintWords Go.Proofs.YtfngbmcedkncjaaW.PrintLast Go.Proofs.YtfngbmcedkncjaaW.PrintMore Plain
set_option linter.unusedVariables false
set_option linter.unusedSimpArgs false
/-- The first that is not 0. -/
def orF : List Int → Int
  | [] => 0
  | x :: l => if x = 0 then orF l else x
theorem orF_step {l : List Int} {k : Nat} {T : Int} (h : orF (l.drop k) = T) (hk : k < l.length) : (if rd l k = 0 then orF (l.drop (k + 1)) else rd l k) = T := by
  rw [drop_at l k hk] at h
  exact h
set_option maxHeartbeats 400000 in
set_option maxRecDepth 100000 in
theorem Or_calls (A : Option Addr) (c : Nat) (l : List Int) (w : World) (hr : Kd.C (Kd.int .i64) w A l.length l) :
    Calls Try.prog 83 #[.slice A l.length c] w fun e w' => e = .returned (.int .i64 (orF l)) ∧ w = w' := by
  have HR := Aside0.mk hr
  have hm := hr.2.1
  clear hr
  go_enter Try.func83, Try.ntmps83
  go_wp2
  go_loop [8] (fun v8 => ∃ k : Nat, v8 = .int .i64 k ∧ k ≤ l.length ∧ Aside0 (orF (l.drop k) = orF l)) (fun v8 => l.length - (intOf v8).toNat)
  case atStart => exact ⟨0, rfl, by omega, ⟨rfl⟩⟩
  case round =>
    obtain ⟨k, rfl, hk, HT⟩ := hrel
    by_cases hlt : k < l.length
    · have hq : (k : Int) < (l.length : Int) := by omega
      obtain ⟨ad, e, hx⟩ := Kd.at_int HR.out k (by omega) hq
      cases e
      rw [Int.toNat_natCast] at hx
      have HS := Aside0.mk (orF_step HT.out hlt)
      generalize rd l k = x at *
      by_cases h : x = 0
      · have hb : (x != 0) = false := bne_eq_false_iff_eq.2 h
        rw [if_pos h] at HS
        clear h
        go_wp2
        go_round
        case rel => exact ⟨k + 1, by go_num, by omega, HS⟩
        case measure => simp [intOf]; omega
      · have hb : (x != 0) = true := bne_iff_ne.2 h
        rw [if_neg h] at HS
        clear h
        go_wp2
        go_ret
        exact ⟨by rw [← HS.out]; rfl, rfl⟩
    · have HS : Aside0 (0 = orF l) := ⟨by
        have h := HT.out
        rw [List.drop_eq_nil_of_le (show l.length ≤ k by omega)] at h
        exact h⟩
      go_wp2
      go_ret
      exact ⟨by rw [← HS.out]; rfl, rfl⟩
theorem vc_or (a b : List Int) : vc a b = orF [cm (a.length : Int) (b.length : Int), sc a b] := by
  unfold vc cm orF orF orF
  by_cases h1 : a.length < b.length
  · have : (a.length : Int) < (b.length : Int) := by omega
    simp [h1, this]
  · by_cases h2 : b.length < a.length
    · have h3 : ¬ (a.length : Int) < (b.length : Int) := by omega
      have h4 : (b.length : Int) < (a.length : Int) := by omega
      simp [h1, h2, h3, h4]
    · have h3 : ¬ (a.length : Int) < (b.length : Int) := by omega
      have h4 : ¬ (b.length : Int) < (a.length : Int) := by omega
      simp [h1, h2, h3, h4]
set_option maxHeartbeats 400000 in
set_option maxRecDepth 100000 in
theorem Compare_calls (A A' : Option Addr) (c c' : Nat) (l l' : List Int) (w : World) (hr : Kd.C (Kd.int .i64) w A l.length l) (hr' : Kd.C (Kd.int .i64) w A' l'.length l') :
    Calls Try.prog 51 #[.slice A l.length c, .slice A' l'.length c'] w fun e w' => e = .returned (.int .i64 (vc l l')) ∧ Bel w.heap.size w w' := by
  have H := Aside0.mk (slicesCompare_calls A A' c c' l l' w hr hr')
  have HV := Aside0.mk (vc_or l l')
  clear hr hr'
  generalize vc l l' = v at *
  generalize sc l l' = s at *
  generalize hd : cm (l.length : Int) (l'.length : Int) = d at *
  have HD := Aside0.mk hd
  clear hd
  go_enter Try.func51, Try.ntmps51
  go_wp2_with fail
  refine (cmpCompare_calls _ _ _).mono ?_
  rintro e w1 ⟨rfl, rfl⟩
  rw [HD.out]
  go_wp2_with fail
  refine H.out.mono ?_
  rintro e w1 ⟨rfl, rfl⟩
  go_wp2_with fail
  refine (Or_calls _ _ [d, s] _ (C_lit _ _ [d, s] _ (by simp))).mono ?_
  rintro e w1 ⟨rfl, rfl⟩
  rw [← HV.out]
  go_wp2
  go_ret
  exact ⟨rfl, (Bel.refl _).alloc _⟩
end Go.Proofs.Ytfngbmcedkncjaa
