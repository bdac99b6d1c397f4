/- wire.length (75), wire.GetBytes (34), the reference's length (77) and GetBytes (35). -/
import Derived.Test.YtfngbmcedkncjaaGetInt
namespace Go.Proofs.Ytfngbmcedkncjaa
open Go.RowKit Go.Proofs.YtfngbmcedkncjaaW.PrintWords Go.Proofs.YtfngbmcedkncjaaW.PrintLast Go.Proofs.YtfngbmcedkncjaaW.PrintMore Plain
attribute [local go_sem] max2_int min2_int max_two min_two max_three min_three max_four min_four
set_option linter.unusedVariables false
set_option linter.unusedSimpArgs false

/-- The answer of length, out of GetInt's. -/
def lenOf (t : Int × Int × Int) (n m : Nat) : Int × Int × Int :=
  if t.2.2 ≠ 0 then (0, 0, t.2.2) else if t.1 < 0 then (0, 0, 11) else if t.1 > ((n : Int) - t.2.1) / m then (0, 0, 10) else t
theorem lenOf_err {n u er : Int} {k m : Nat} (h : er ≠ 0) : ((0, 0, er) : Int × Int × Int) = lenOf (n, u, er) k m := by simp [lenOf, h]
theorem lenOf_neg {n u : Int} {k m : Nat} (h : n < 0) : ((0, 0, 11) : Int × Int × Int) = lenOf (n, u, 0) k m := by simp [lenOf, h]
theorem lenOf_big {n u : Int} {k m : Nat} (h : 0 ≤ n) (hb : ((k : Int) - u) / m < n) : ((0, 0, 10) : Int × Int × Int) = lenOf (n, u, 0) k m := by
  unfold lenOf
  rw [if_neg (by simp), if_neg (Int.not_lt.2 h), if_pos hb]
theorem lenOf_ok {n u : Int} {k m : Nat} (h : 0 ≤ n) (hb : n ≤ ((k : Int) - u) / m) : ((n, u, 0) : Int × Int × Int) = lenOf (n, u, 0) k m := by
  unfold lenOf
  rw [if_neg (by simp), if_neg (Int.not_lt.2 h), if_neg (Int.not_lt.2 hb)]
theorem dLen_eq (b : List Int) (m : Nat) : dLen b m = lenOf (dInt b) b.length m := rfl

set_option maxHeartbeats 400000 in
set_option maxRecDepth 100000 in
theorem length_calls (A : Option Addr) (c : Nat) (l : List Int) (m : Nat) (w : World) (hr : Kd.C (Kd.int .u8) w A l.length l) (hc : l.length ≤ c) (hb : Bytes8 l) (hm : 1 ≤ m) (hm2 : m ≤ 16) (hn : l.length ≤ 9223372036854775807) :
    Calls Try.prog 75 #[.slice A l.length c, .int .i64 m] w fun e w' => e = .returned (.tuple #[.int .i64 (dLen l m).1, .int .i64 (dLen l m).2.1, .int .i64 (dLen l m).2.2]) ∧ w = w' := by
  have HG := Aside0.mk (GetInt_calls A c l w hr hc hb)
  obtain ⟨h1, h2, h3, h4, h5, h6⟩ := dInt_range hb
  rw [dLen_eq]
  generalize dInt l = t at *
  obtain ⟨n, u, er⟩ := t
  simp only at h1 h2 h3 h4 h5 h6
  have HN : Aside0 (I64 n) := ⟨h1⟩
  obtain ⟨h1a, h1b⟩ := h1
  have H6 := Aside0.mk h6
  clear hr hb h5 h6
  by_cases he : er = 0
  · have hs0 : (0 : Int) ≤ (l.length : Int) - u := by omega
    subst he
    by_cases hneg : n < 0
    · go_enter Try.func75, Try.ntmps75
      go_wp2_with (go_at_call 32; refine HG.out.mono ?_; rintro e w1 ⟨rfl, rfl⟩)
      go_ret3
      exact ⟨ret3_int (lenOf_neg hneg), rfl⟩
    · by_cases hbig : n > ((l.length : Int) - u) / m
      · go_enter Try.func75, Try.ntmps75
        go_wp2_with (go_at_call 32; refine HG.out.mono ?_; rintro e w1 ⟨rfl, rfl⟩)
        go_ret3
        exact ⟨ret3_int (lenOf_big hneg hbig), rfl⟩
      · go_enter Try.func75, Try.ntmps75
        go_wp2_with (go_at_call 32; refine HG.out.mono ?_; rintro e w1 ⟨rfl, rfl⟩)
        go_ret3
        exact ⟨ret3_int (lenOf_ok hneg hbig), rfl⟩
  · go_enter Try.func75, Try.ntmps75
    go_wp2_with (go_at_call 32; refine HG.out.mono ?_; rintro e w1 ⟨rfl, rfl⟩)
    go_ret3
    exact ⟨ret3_int (lenOf_err he), rfl⟩
end Go.Proofs.Ytfngbmcedkncjaa
