/- Valid (47, 48), Alike (49, 50), Metric (53), Difference (61): walked. Alike (49, 50): walked. -/
import Derived.Test.YtfngbmcedkncjaaBase
import Derived.Test.YtfngbmcedkncjaaVPlain
namespace Go.Proofs.Ytfngbmcedkncjaa
open Go.RowKit Go.Proofs.YtfngbmcedkncjaaW.PrintWords Go.Proofs.YtfngbmcedkncjaaW.PrintLast Go.Proofs.YtfngbmcedkncjaaW.PrintMore Plain
set_option linter.unusedVariables false
set_option linter.unusedSimpArgs false
/-- One step of Valid. -/
def stepV (b : Bool) (x : Int) : Bool := b && decide (-1000 ≤ x) && decide (x ≤ 1000)
theorem foldV : ∀ (l : List Int) (b : Bool), l.foldl stepV b = (b && within 1000 l)
  | [], b => by simp [within]
  | x :: l, b => by
    rw [List.foldl_cons, foldV l]
    simp [stepV, within, Bool.and_assoc]
theorem vdrop_at (l : List Int) (k : Nat) (h : k < l.length) : l.drop k = rd l k :: l.drop (k + 1) := by
  rw [List.drop_eq_getElem_cons h]
  simp [rd, List.getD_eq_getElem?_getD, h]
theorem fold_step {β : Type} {f : β → Int → β} {l : List Int} {k : Nat} {t T : β} (h : (l.drop k).foldl f t = T) (hk : k < l.length) : (l.drop (k + 1)).foldl f (f t (rd l k)) = T := by
  rw [vdrop_at l k hk] at h
  exact h
theorem fold_end {β : Type} {f : β → Int → β} {l : List Int} {k : Nat} {t T : β} (h : (l.drop k).foldl f t = T) (hk : ¬ k < l.length) : t = T := by
  rw [List.drop_eq_nil_of_le (by omega)] at h
  exact h
set_option maxHeartbeats 400000 in
set_option maxRecDepth 100000 in
theorem cloV_calls (b : Bool) (x : Int) (w : World) : Calls Try.prog 82 #[.bool b, .int .i64 x] w fun e w' => e = .returned (.bool (stepV b x)) ∧ w = w' := by
  cases b with
  | false =>
    have hf : Aside0 (stepV false x = false) := ⟨rfl⟩
    go_enter Try.func82, Try.ntmps82
    go_wp2
    go_ret
    exact ⟨by rw [hf.out]; rfl, rfl⟩
  | true =>
    by_cases h1 : x ≥ -1000
    · by_cases h2 : x ≤ 1000
      · have hf : Aside0 (stepV true x = true) := ⟨by simp [stepV]; omega⟩
        go_enter Try.func82, Try.ntmps82
        go_wp2
        go_ret
        exact ⟨by rw [hf.out]; rfl, rfl⟩
      · have hf : Aside0 (stepV true x = false) := ⟨by simp [stepV]; omega⟩
        go_enter Try.func82, Try.ntmps82
        go_wp2
        go_ret
        exact ⟨by rw [hf.out]; rfl, rfl⟩
    · have hf : Aside0 (stepV true x = false) := ⟨by simp [stepV]; omega⟩
      go_enter Try.func82, Try.ntmps82
      go_wp2
      go_ret
      exact ⟨by rw [hf.out]; rfl, rfl⟩
set_option maxHeartbeats 400000 in
set_option maxRecDepth 100000 in
theorem foldB_calls (A : Option Addr) (c : Nat) (l : List Int) (b : Bool) (w : World) (hr : Kd.C (Kd.int .i64) w A l.length l) :
    Calls Try.prog 81 #[.slice A l.length c, .bool b, .func (.func 82) #[] #[]] w fun e w' => e = .returned (.bool (l.foldl stepV b)) ∧ w = w' := by
  have HR := Aside0.mk hr
  have hm := hr.2.1
  clear hr
  generalize hT : l.foldl stepV b = T
  have HT0 := Aside0.mk hT
  clear hT
  go_enter Try.func81, Try.ntmps81
  go_wp2
  go_loop [1, 11] (fun v1 v11 => ∃ (k : Nat) (t : Bool), v1 = .bool t ∧ v11 = .int .i64 k ∧ k ≤ l.length ∧ Aside0 ((l.drop k).foldl stepV t = T)) (fun _ v11 => l.length - (intOf v11).toNat)
  case atStart => exact ⟨0, b, rfl, rfl, by omega, ⟨HT0.out⟩⟩
  case round =>
    obtain ⟨k, t, rfl, rfl, hk, HT⟩ := hrel
    by_cases hlt : k < l.length
    · have hq : (k : Int) < (l.length : Int) := by omega
      obtain ⟨ad, e, hx⟩ := Kd.at_int HR.out k (by omega) hq
      cases e
      rw [Int.toNat_natCast] at hx
      have HS := Aside0.mk (fold_step HT.out hlt)
      generalize rd l k = x at *
      go_wp2_with (go_at_call 82; refine (cloV_calls t x _).mono ?_; rintro e w1 ⟨rfl, rfl⟩)
      go_round
      case rel => exact ⟨k + 1, _, rfl, by go_num, by omega, HS⟩
      case measure => simp [intOf]; omega
    · have HS := Aside0.mk (fold_end HT.out hlt)
      go_wp2
      go_ret
      exact ⟨by rw [← HS.out]; rfl, rfl⟩
/-- Between 1 and 32 elements. -/
theorem vOk_of {l : List Int} {b f g : Bool} (h1 : within 1000 l = b) (h2 : decide (1 ≤ l.length) = f) (h3 : decide (l.length ≤ 32) = g) : vOk l = (b && (f && g)) := by
  unfold vOk fewB; rw [h1, h2, h3]
theorem vDiff_of {l : List Int} {b f g : Bool} (h1 : within 2000 l = b) (h2 : decide (1 ≤ l.length) = f) (h3 : decide (l.length ≤ 32) = g) : vDiff l = (b && (f && g)) := by
  unfold vDiff fewB; rw [h1, h2, h3]
set_option maxHeartbeats 400000 in
set_option maxRecDepth 100000 in
theorem Valid_calls (A : Option Addr) (c : Nat) (l : List Int) (w : World) (hr : Kd.C (Kd.int .i64) w A l.length l) :
    Calls Try.prog 47 #[.slice A l.length c] w fun e w' => e = .returned (.bool (vOk l)) ∧ w = w' := by
  have H := Aside0.mk (foldB_calls A c l true w hr)
  have hm := hr.2.1
  clear hr
  have HW := Aside0.mk (foldV l true)
  generalize hb : within 1000 l = b at *
  generalize hT : l.foldl stepV true = T at *
  have HT := Aside0.mk hT
  have HB := Aside0.mk hb
  clear hT hb
  cases b with
  | false =>
    have hf : Aside0 (vOk l = false) := ⟨by rw [vOk_of HB.out rfl rfl]; rfl⟩
    have e : T = false := by rw [HW.out]; rfl
    subst e
    go_enter Try.func47, Try.ntmps47
    go_wp2_with (go_at_call 81; refine H.out.mono ?_; rintro e w1 ⟨rfl, rfl⟩)
    go_ret
    exact ⟨by rw [hf.out]; rfl, rfl⟩
  | true =>
    have e : T = true := by rw [HW.out]; rfl
    subst e
    by_cases h1 : 1 ≤ l.length
    · by_cases h2 : l.length ≤ 32
      · have hf : Aside0 (vOk l = true) := ⟨by rw [vOk_of HB.out (decide_eq_true h1) (decide_eq_true h2)]; rfl⟩
        have hd : decide ((l.length : Int) ≤ 32) = true := decide_eq_true (by omega)
        go_enter Try.func47, Try.ntmps47
        go_wp2_with (go_at_call 81; refine H.out.mono ?_; rintro e w1 ⟨rfl, rfl⟩)
        go_ret
        exact ⟨by rw [hf.out]; rfl, rfl⟩
      · have hf : Aside0 (vOk l = false) := ⟨by rw [vOk_of HB.out (decide_eq_true h1) (decide_eq_false h2)]; rfl⟩
        have hd : decide ((l.length : Int) ≤ 32) = false := decide_eq_false (by omega)
        go_enter Try.func47, Try.ntmps47
        go_wp2_with (go_at_call 81; refine H.out.mono ?_; rintro e w1 ⟨rfl, rfl⟩)
        go_ret
        exact ⟨by rw [hf.out]; rfl, rfl⟩
    · have hf : Aside0 (vOk l = false) := ⟨by rw [vOk_of HB.out (decide_eq_false h1) rfl]; rfl⟩
      go_enter Try.func47, Try.ntmps47
      go_wp2_with (go_at_call 81; refine H.out.mono ?_; rintro e w1 ⟨rfl, rfl⟩)
      go_ret
      exact ⟨by rw [hf.out]; rfl, rfl⟩
/-- The lists behind place k are within. -/
theorem within_step {m : Int} {l : List Int} {k : Nat} {T : Bool} (h : within m (l.drop k) = T) (hk : k < l.length) : (decide (-m ≤ rd l k) && decide (rd l k ≤ m) && within m (l.drop (k + 1))) = T := by
  rw [vdrop_at l k hk] at h
  exact h
set_option maxHeartbeats 400000 in
set_option maxRecDepth 100000 in
theorem refValid_calls (A : Option Addr) (c : Nat) (l : List Int) (w : World) (hr : Kd.C (Kd.int .i64) w A l.length l) :
    Calls Try.prog 48 #[.slice A l.length c] w fun e w' => e = .returned (.bool (vOk l)) ∧ w = w' := by
  have HR := Aside0.mk hr
  have hm := hr.2.1
  clear hr
  generalize hT : within 1000 l = T
  have HT0 := Aside0.mk hT
  clear hT
  go_enter Try.func48, Try.ntmps48
  go_wp2
  go_loop [3] (fun v3 => ∃ k : Nat, v3 = .int .i64 k ∧ k ≤ l.length ∧ Aside0 (within 1000 (l.drop k) = T)) (fun v3 => l.length - (intOf v3).toNat)
  case atStart => exact ⟨0, rfl, by omega, ⟨HT0.out⟩⟩
  case round =>
    obtain ⟨k, rfl, hk, HT⟩ := hrel
    by_cases hlt : k < l.length
    · have hq : (k : Int) < (l.length : Int) := by omega
      obtain ⟨ad, e, hx⟩ := Kd.at_int HR.out k (by omega) hq
      cases e
      rw [Int.toNat_natCast] at hx
      have HS := Aside0.mk (within_step HT.out hlt)
      generalize rd l k = x at *
      by_cases h1 : x < -1000
      · have hf : Aside0 (vOk l = false) := ⟨by
          rw [vOk_of HT0.out rfl rfl, ← HS.out, decide_eq_false (show ¬ -1000 ≤ x by omega)]; rfl⟩
        go_wp2
        go_ret
        exact ⟨by rw [hf.out]; rfl, rfl⟩
      · by_cases h2 : x > 1000
        · have hf : Aside0 (vOk l = false) := ⟨by
            rw [vOk_of HT0.out rfl rfl, ← HS.out, decide_eq_false (show ¬ x ≤ 1000 by omega), Bool.and_false]; rfl⟩
          go_wp2
          go_ret
          exact ⟨by rw [hf.out]; rfl, rfl⟩
        · have HS2 : Aside0 (within 1000 (l.drop (k + 1)) = T) := ⟨by
            have := HS.out
            rw [decide_eq_true (show -1000 ≤ x by omega), decide_eq_true (show x ≤ 1000 by omega)] at this
            exact this⟩
          go_wp2
          go_round
          case rel => exact ⟨k + 1, by go_num, by omega, HS2⟩
          case measure => simp [intOf]; omega
    · have hb : Aside0 (T = true) := ⟨by
        have h := HT.out
        rw [List.drop_eq_nil_of_le (show l.length ≤ k by omega)] at h
        exact h.symm⟩
      by_cases h1 : 1 ≤ l.length
      · by_cases h2 : l.length ≤ 32
        · have hf : Aside0 (vOk l = true) := ⟨by rw [vOk_of HT0.out (decide_eq_true h1) (decide_eq_true h2), hb.out]; rfl⟩
          have hd : decide ((l.length : Int) ≤ 32) = true := decide_eq_true (by omega)
          go_wp2
          go_ret
          exact ⟨by rw [hf.out]; rfl, rfl⟩
        · have hf : Aside0 (vOk l = false) := ⟨by rw [vOk_of HT0.out (decide_eq_true h1) (decide_eq_false h2), hb.out]; rfl⟩
          have hd : decide ((l.length : Int) ≤ 32) = false := decide_eq_false (by omega)
          go_wp2
          go_ret
          exact ⟨by rw [hf.out]; rfl, rfl⟩
      · have hf : Aside0 (vOk l = false) := ⟨by rw [vOk_of HT0.out (decide_eq_false h1) rfl, hb.out]; rfl⟩
        go_wp2
        go_ret
        exact ⟨by rw [hf.out]; rfl, rfl⟩
set_option maxHeartbeats 400000 in
set_option maxRecDepth 100000 in
theorem Difference_calls (A : Option Addr) (c : Nat) (l : List Int) (w : World) (hr : Kd.C (Kd.int .i64) w A l.length l) :
    Calls Try.prog 61 #[.slice A l.length c] w fun e w' => e = .returned (.bool (vDiff l)) ∧ w = w' := by
  have HR := Aside0.mk hr
  have hm := hr.2.1
  clear hr
  generalize hT : within 2000 l = T
  have HT0 := Aside0.mk hT
  clear hT
  go_enter Try.func61, Try.ntmps61
  go_wp2
  go_loop [3] (fun v3 => ∃ k : Nat, v3 = .int .i64 k ∧ k ≤ l.length ∧ Aside0 (within 2000 (l.drop k) = T)) (fun v3 => l.length - (intOf v3).toNat)
  case atStart => exact ⟨0, rfl, by omega, ⟨HT0.out⟩⟩
  case round =>
    obtain ⟨k, rfl, hk, HT⟩ := hrel
    by_cases hlt : k < l.length
    · have hq : (k : Int) < (l.length : Int) := by omega
      obtain ⟨ad, e, hx⟩ := Kd.at_int HR.out k (by omega) hq
      cases e
      rw [Int.toNat_natCast] at hx
      have HS := Aside0.mk (within_step HT.out hlt)
      generalize rd l k = x at *
      by_cases h1 : x < -2000
      · have hf : Aside0 (vDiff l = false) := ⟨by
          rw [vDiff_of HT0.out rfl rfl, ← HS.out, decide_eq_false (show ¬ -2000 ≤ x by omega)]; rfl⟩
        go_wp2
        go_ret
        exact ⟨by rw [hf.out]; rfl, rfl⟩
      · by_cases h2 : x > 2000
        · have hf : Aside0 (vDiff l = false) := ⟨by
            rw [vDiff_of HT0.out rfl rfl, ← HS.out, decide_eq_false (show ¬ x ≤ 2000 by omega), Bool.and_false]; rfl⟩
          go_wp2
          go_ret
          exact ⟨by rw [hf.out]; rfl, rfl⟩
        · have HS2 : Aside0 (within 2000 (l.drop (k + 1)) = T) := ⟨by
            have := HS.out
            rw [decide_eq_true (show -2000 ≤ x by omega), decide_eq_true (show x ≤ 2000 by omega)] at this
            exact this⟩
          go_wp2
          go_round
          case rel => exact ⟨k + 1, by go_num, by omega, HS2⟩
          case measure => simp [intOf]; omega
    · have hb : Aside0 (T = true) := ⟨by
        have h := HT.out
        rw [List.drop_eq_nil_of_le (show l.length ≤ k by omega)] at h
        exact h.symm⟩
      by_cases h1 : 1 ≤ l.length
      · by_cases h2 : l.length ≤ 32
        · have hf : Aside0 (vDiff l = true) := ⟨by rw [vDiff_of HT0.out (decide_eq_true h1) (decide_eq_true h2), hb.out]; rfl⟩
          have hd : decide ((l.length : Int) ≤ 32) = true := decide_eq_true (by omega)
          go_wp2
          go_ret
          exact ⟨by rw [hf.out]; rfl, rfl⟩
        · have hf : Aside0 (vDiff l = false) := ⟨by rw [vDiff_of HT0.out (decide_eq_true h1) (decide_eq_false h2), hb.out]; rfl⟩
          have hd : decide ((l.length : Int) ≤ 32) = false := decide_eq_false (by omega)
          go_wp2
          go_ret
          exact ⟨by rw [hf.out]; rfl, rfl⟩
      · have hf : Aside0 (vDiff l = false) := ⟨by rw [vDiff_of HT0.out (decide_eq_false h1) rfl, hb.out]; rfl⟩
        go_wp2
        go_ret
        exact ⟨by rw [hf.out]; rfl, rfl⟩
/-- A metric. -/
def isMet (n : Int) : Bool := decide (1 ≤ n) && decide (n ≤ 3)
set_option maxHeartbeats 400000 in
set_option maxRecDepth 100000 in
theorem Metric_calls (n : Int) (w : World) : Calls Try.prog 53 #[.int .i64 n] w fun e w' => e = .returned (.bool (isMet n)) ∧ w = w' := by
  by_cases h1 : n ≥ 1
  · by_cases h2 : n ≤ 3
    · have hf : Aside0 (isMet n = true) := ⟨by simp [isMet]; omega⟩
      go_enter Try.func53, Try.ntmps53
      go_wp2
      go_ret
      exact ⟨by rw [hf.out]; rfl, rfl⟩
    · have hf : Aside0 (isMet n = false) := ⟨by simp [isMet]; omega⟩
      go_enter Try.func53, Try.ntmps53
      go_wp2
      go_ret
      exact ⟨by rw [hf.out]; rfl, rfl⟩
  · have hf : Aside0 (isMet n = false) := ⟨by simp [isMet]; omega⟩
    go_enter Try.func53, Try.ntmps53
    go_wp2
    go_ret
    exact ⟨by rw [hf.out]; rfl, rfl⟩
end Go.Proofs.Ytfngbmcedkncjaa
namespace Go.Proofs.Ytfngbmcedkncjaa
open Go.RowKit Go.Proofs.YtfngbmcedkncjaaW.PrintWords Go.Proofs.YtfngbmcedkncjaaW.PrintLast Go.Proofs.YtfngbmcedkncjaaW.PrintMore Plain
set_option linter.unusedVariables false
set_option linter.unusedSimpArgs false
set_option maxHeartbeats 400000 in
set_option maxRecDepth 100000 in
theorem refAlike_calls (A A' : Option Addr) (c c' : Nat) (l l' : List Int) (w : World) (hr : Kd.C (Kd.int .i64) w A l.length l) (hr' : Kd.C (Kd.int .i64) w A' l'.length l') :
    Calls Try.prog 50 #[.slice A l.length c, .slice A' l'.length c'] w fun e w' => e = .returned (.bool (vAlike l l')) ∧ w = w' := by
  have H := Aside0.mk (refValid_calls A c l w hr)
  have H' := Aside0.mk (refValid_calls A' c' l' w hr')
  have hm := hr.2.1
  have hm' := hr'.2.1
  clear hr hr'
  have HA : Aside0 (vAlike l l' = (vOk l && vOk l' && decide (l.length = l'.length))) := ⟨rfl⟩
  generalize vAlike l l' = r at *
  generalize vOk l = p at *
  generalize vOk l' = q at *
  cases p with
  | false =>
    go_enter Try.func50, Try.ntmps50
    go_wp2_with fail
    refine H.out.mono ?_
    rintro e w1 ⟨rfl, rfl⟩
    go_wp2
    go_ret
    exact ⟨by rw [HA.out]; rfl, rfl⟩
  | true =>
    cases q with
    | false =>
      go_enter Try.func50, Try.ntmps50
      go_wp2_with fail
      refine H.out.mono ?_
      rintro e w1 ⟨rfl, rfl⟩
      go_wp2_with fail
      refine H'.out.mono ?_
      rintro e w1 ⟨rfl, rfl⟩
      go_wp2
      go_ret
      exact ⟨by rw [HA.out]; rfl, rfl⟩
    | true =>
      by_cases h : l.length = l'.length
      · have hf : Aside0 (r = true) := ⟨by rw [HA.out]; simpa using h⟩
        have hb : ((l.length : Int) == (l'.length : Int)) = true := beq_iff_eq.2 (by omega)
        have hb' : (l.length == l'.length) = true := beq_iff_eq.2 h
        clear h
        go_enter Try.func50, Try.ntmps50
        go_wp2_with fail
        refine H.out.mono ?_
        rintro e w1 ⟨rfl, rfl⟩
        go_wp2_with fail
        refine H'.out.mono ?_
        rintro e w1 ⟨rfl, rfl⟩
        go_wp2
        go_ret
        exact ⟨by rw [hf.out]; rfl, rfl⟩
      · have hf : Aside0 (r = false) := ⟨by rw [HA.out]; simpa using h⟩
        have hb : ((l.length : Int) == (l'.length : Int)) = false := beq_eq_false_iff_ne.2 (by omega)
        have hb' : (l.length == l'.length) = false := beq_eq_false_iff_ne.2 h
        clear h
        go_enter Try.func50, Try.ntmps50
        go_wp2_with fail
        refine H.out.mono ?_
        rintro e w1 ⟨rfl, rfl⟩
        go_wp2_with fail
        refine H'.out.mono ?_
        rintro e w1 ⟨rfl, rfl⟩
        go_wp2
        go_ret
        exact ⟨by rw [hf.out]; rfl, rfl⟩
set_option maxHeartbeats 400000 in
set_option maxRecDepth 100000 in
theorem Alike_calls (A A' : Option Addr) (c c' : Nat) (l l' : List Int) (w : World) (hr : Kd.C (Kd.int .i64) w A l.length l) (hr' : Kd.C (Kd.int .i64) w A' l'.length l') :
    Calls Try.prog 49 #[.slice A l.length c, .slice A' l'.length c'] w fun e w' => e = .returned (.bool (vAlike l l')) ∧ w = w' := by
  have H := Aside0.mk (Valid_calls A c l w hr)
  have H' := Aside0.mk (Valid_calls A' c' l' w hr')
  have hm := hr.2.1
  have hm' := hr'.2.1
  clear hr hr'
  have HA : Aside0 (vAlike l l' = (vOk l && vOk l' && decide (l.length = l'.length))) := ⟨rfl⟩
  generalize vAlike l l' = r at *
  generalize vOk l = p at *
  generalize vOk l' = q at *
  by_cases h : l.length = l'.length
  · have hb : ((l.length : Int) == (l'.length : Int)) = true := beq_iff_eq.2 (by omega)
    have hb' : (l.length == l'.length) = true := beq_iff_eq.2 h
    have HA' : Aside0 (r = (p && q)) := ⟨by rw [HA.out]; simp [h]⟩
    clear h
    cases p with
    | false =>
      go_enter Try.func49, Try.ntmps49
      go_wp2_with fail
      refine H.out.mono ?_
      rintro e w1 ⟨rfl, rfl⟩
      go_wp2
      go_ret
      exact ⟨by rw [HA'.out]; rfl, rfl⟩
    | true =>
      go_enter Try.func49, Try.ntmps49
      go_wp2_with fail
      refine H.out.mono ?_
      rintro e w1 ⟨rfl, rfl⟩
      go_wp2_with fail
      refine H'.out.mono ?_
      rintro e w1 ⟨rfl, rfl⟩
      go_wp2
      go_ret
      exact ⟨by rw [HA'.out]; rfl, rfl⟩
  · have hb : ((l.length : Int) == (l'.length : Int)) = false := beq_eq_false_iff_ne.2 (by omega)
    have hb' : (l.length == l'.length) = false := beq_eq_false_iff_ne.2 h
    have hf : Aside0 (r = false) := ⟨by rw [HA.out]; simp [h]⟩
    clear h
    go_enter Try.func49, Try.ntmps49
    go_wp2
    go_ret
    exact ⟨by rw [hf.out]; rfl, rfl⟩
end Go.Proofs.Ytfngbmcedkncjaa
