/- The reference's length (77), GetBytes (34, 35). -/
import Derived.Test.YtfngbmcedkncjaaRefGet
namespace Go.Proofs.Ytfngbmcedkncjaa
open Go.RowKit Go.Proofs.YtfngbmcedkncjaaW.PrintWords Go.Proofs.YtfngbmcedkncjaaW.PrintLast Go.Proofs.YtfngbmcedkncjaaW.PrintMore Plain
attribute [local go_sem] max2_int min2_int max_two min_two max_three min_three max_four min_four
set_option linter.unusedVariables false
set_option linter.unusedSimpArgs false

set_option maxHeartbeats 400000 in
set_option maxRecDepth 100000 in
theorem reflength_calls (A : Option Addr) (c : Nat) (l : List Int) (m : Nat) (w : World) (hr : Kd.C (Kd.int .u8) w A l.length l) (hc : l.length ≤ c) (hb : Bytes8 l) (hm : 1 ≤ m) (hm2 : m ≤ 16) (hn : l.length ≤ 9223372036854775807) :
    Calls Try.prog 77 #[.slice A l.length c, .int .i64 m] w fun e w' => e = .returned (.tuple #[.int .i64 (dLen l m).1, .int .i64 (dLen l m).2.1, .int .i64 (dLen l m).2.2]) ∧ w = w' := by
  have HG := Aside0.mk (refGetInt_calls A c l w hr hc hb)
  obtain ⟨h1, h2, h3, h4, h5, h6⟩ := dInt_range hb
  rw [dLen_eq]
  generalize dInt l = t at *
  obtain ⟨n, u, er⟩ := t
  simp only at h1 h2 h3 h4 h5 h6
  have HN : Aside0 (I64 n) := ⟨h1⟩
  obtain ⟨h1a, h1b⟩ := h1
  have H6 := Aside0.mk h6
  clear hr hb h5 h6
  by_cases he : er = 0
  · have hs0 : (0 : Int) ≤ (l.length : Int) - u := by omega
    subst he
    by_cases hneg : n < 0
    · go_enter Try.func77, Try.ntmps77
      go_wp2_with (go_at_call 33; refine HG.out.mono ?_; rintro e w1 ⟨rfl, rfl⟩)
      go_ret3
      exact ⟨ret3_int (lenOf_neg hneg), rfl⟩
    · by_cases hbig : n > ((l.length : Int) - u) / m
      · go_enter Try.func77, Try.ntmps77
        go_wp2_with (go_at_call 33; refine HG.out.mono ?_; rintro e w1 ⟨rfl, rfl⟩)
        go_ret3
        exact ⟨ret3_int (lenOf_big hneg hbig), rfl⟩
      · go_enter Try.func77, Try.ntmps77
        go_wp2_with (go_at_call 33; refine HG.out.mono ?_; rintro e w1 ⟨rfl, rfl⟩)
        go_ret3
        exact ⟨ret3_int (lenOf_ok hneg hbig), rfl⟩
  · go_enter Try.func77, Try.ntmps77
    go_wp2_with (go_at_call 33; refine HG.out.mono ?_; rintro e w1 ⟨rfl, rfl⟩)
    go_ret3
    exact ⟨ret3_int (lenOf_err he), rfl⟩

/-- 'b[i:k]' of bytes that are read. -/
theorem cut8 (A : Option Addr) (c : Nat) (l : List Int) (a b : Int) (h0 : 0 ≤ a) (h1 : a ≤ b) (h2 : b ≤ l.length) (hc : l.length ≤ c) :
    ∃ A1 c1 n1, (∀ W : World, (Instr.slice 28 (.slice A l.length c) (some (.int .i64 a)) (some (.int .i64 b)) none).run Try.prog W = .ok (.slice A1 n1 c1) W) ∧
      (∀ w : World, Kd.C (Kd.int .u8) w A l.length l → (convert 28 9 (.slice A1 n1 c1)).run Try.prog w = .ok (.string (strOfNums ((l.drop a.toNat).take (b - a).toNat))) w) := by
  obtain ⟨i0, hi, hzz⟩ := Option.map_eq_some_iff.1 info5
  simp only [Prod.mk.injEq] at hzz
  have hcut := cut_mid (P := Try.prog) 28 5 .i64 .i64 Try.underlying28 hi 1 hzz.2.1 A l.length c a b h0 h1 h2 hc
  have e : (l.take b.toNat).drop a.toNat = (l.drop a.toNat).take (b - a).toNat := by rw [List.drop_take]; congr 1; omega
  have hl : ((l.take b.toNat).drop a.toNat).length = b.toNat - a.toNat := by rw [List.length_drop, List.length_take]; omega
  refine ⟨_, _, _, hcut, fun w hC => ?_⟩
  have h := Kd.C_mid (lo := a.toNat) (hi := b.toNat) (c := c) hC (by omega) (by omega) hc
  rw [hl] at h
  rw [← e]
  exact Kd.C_string Try.underlying28 Try.underlying5 Try.underlying9 h
theorem dLen_range {b : List Int} {m : Nat} (hb : Bytes8 b) (hm : 1 ≤ m) : I64 (dLen b m).1 ∧ 0 ≤ (dLen b m).2.1 ∧ ((dLen b m).2.2 = 0 → 0 ≤ (dLen b m).1 ∧ 1 ≤ (dLen b m).2.1 ∧ (dLen b m).2.1 ≤ 10 ∧ (dLen b m).1 * m ≤ b.length - (dLen b m).2.1) ∧ ((dLen b m).2.2 = 0 ∨ (dLen b m).2.2 = 10 ∨ (dLen b m).2.2 = 11) := by
  obtain ⟨h1, h2, h3, h4, h5, h6⟩ := dInt_range hb
  rw [dLen_eq]
  generalize dInt b = t at *
  obtain ⟨n, u, e⟩ := t
  simp only at h1 h2 h3 h4 h5 h6
  unfold lenOf
  simp only
  have i0 : I64 0 := by unfold I64; omega
  split
  · exact ⟨i0, Int.le_refl _, fun h => absurd h (by assumption), h6⟩
  · split
    · exact ⟨i0, Int.le_refl _, fun h => absurd h (by decide), .inr (.inr rfl)⟩
    · split
      · exact ⟨i0, Int.le_refl _, fun h => absurd h (by decide), .inr (.inl rfl)⟩
      · rename_i he hn hbig
        have he' : e = 0 := by omega
        refine ⟨h1, h2, fun _ => ⟨by omega, h5 he', h4, ?_⟩, .inl he'⟩
        have hle : n ≤ ((b.length : Int) - u) / m := by omega
        have := Int.mul_le_mul_of_nonneg_right hle (show (0 : Int) ≤ m by omega)
        have h7 := Int.ediv_mul_le ((b.length : Int) - u) (show (m : Int) ≠ 0 by omega)
        show n * (m : Int) ≤ (b.length : Int) - u
        omega
/-- The answer of GetBytes, out of length's. -/
def bytesOf1 (t : Int × Int × Int) (l : List Int) : ByteArray × Int × Int :=
  if t.2.2 ≠ 0 then (⟨#[]⟩, 0, t.2.2) else (strOfNums ((l.drop t.2.1.toNat).take t.1.toNat), t.2.1 + t.1, 0)
theorem dBytes_eq (b : List Int) : dBytes b = bytesOf1 (dLen b 1) b := rfl
theorem ret3_str {a : ByteArray} {b c : Int} {t : ByteArray × Int × Int} (h : (a, b, c) = t) : Ending.returned (.tuple #[.string a, .int .i64 b, .int .i64 c]) = .returned (.tuple #[.string t.1, .int .i64 t.2.1, .int .i64 t.2.2]) := by rw [← h]

set_option maxHeartbeats 400000 in
set_option maxRecDepth 100000 in
theorem GetBytes_calls (A : Option Addr) (c : Nat) (l : List Int) (w : World) (hr : Kd.C (Kd.int .u8) w A l.length l) (hc : l.length ≤ c) (hb : Bytes8 l) (hn : l.length ≤ 9223372036854775807) :
    Calls Try.prog 34 #[.slice A l.length c] w fun e w' => e = .returned (.tuple #[.string (dBytes l).1, .int .i64 (dBytes l).2.1, .int .i64 (dBytes l).2.2]) ∧ w = w' := by
  have HG := Aside0.mk (length_calls A c l 1 w hr hc hb (by omega) (by omega) hn)
  have hR := dLen_range (m := 1) hb (by omega)
  rw [dBytes_eq]
  generalize dLen l 1 = t at *
  obtain ⟨n, u, er⟩ := t
  obtain ⟨h1, h2, h3, h4⟩ := hR
  simp only at h1 h2 h3 h4
  by_cases he : er = 0
  · subst he
    obtain ⟨h5, h6, h7, h8⟩ := h3 rfl
    have h9 : n ≤ (l.length : Int) - u := by omega
    obtain ⟨A1, c1, n1, hsl, hcv⟩ := cut8 A c l u (u + n) (by omega) (by omega) (by omega) hc
    have hcv' := hcv w hr
    rw [show u + n - u = n from by omega] at hcv'
    clear hcv hr hb h1 h3 h4 h8 hc
    go_enter Try.func34, Try.ntmps34
    go_wp2_with (go_at_call 75; refine HG.out.mono ?_; rintro e w1 ⟨rfl, rfl⟩)
    go_ret3
    exact ⟨ret3_str (t := bytesOf1 (n, u, 0) l) (by simp [bytesOf1]), rfl⟩
  · have hbe : (er != 0) = true := bne_iff_ne.2 he
    have HE := Aside0.mk he
    clear he h1 h2 h3 h4 hr hb hc
    go_enter Try.func34, Try.ntmps34
    go_wp2_with (go_at_call 75; refine HG.out.mono ?_; rintro e w1 ⟨rfl, rfl⟩)
    go_ret3
    exact ⟨ret3_str (t := bytesOf1 (n, u, er) l) (by simp [bytesOf1, HE.out]), rfl⟩

set_option maxHeartbeats 400000 in
set_option maxRecDepth 100000 in
theorem refGetBytes_calls (A : Option Addr) (c : Nat) (l : List Int) (w : World) (hr : Kd.C (Kd.int .u8) w A l.length l) (hc : l.length ≤ c) (hb : Bytes8 l) (hn : l.length ≤ 9223372036854775807) :
    Calls Try.prog 35 #[.slice A l.length c] w fun e w' => e = .returned (.tuple #[.string (dBytes l).1, .int .i64 (dBytes l).2.1, .int .i64 (dBytes l).2.2]) ∧ w = w' := by
  have HG := Aside0.mk (refGetInt_calls A c l w hr hc hb)
  have hR := dInt_range hb
  rw [dBytes_eq, dLen_eq]
  generalize dInt l = t at *
  obtain ⟨n, u, er⟩ := t
  obtain ⟨h1, h2, h3, h4, h5, h6⟩ := hR
  simp only at h1 h2 h3 h4 h5 h6
  have hn1 := h1.1
  have hn2 := h1.2
  clear h1 h5 h6
  by_cases he : er = 0
  · subst he
    by_cases hneg : n < 0
    · have HF : Aside0 (((⟨#[]⟩, 0, 11) : ByteArray × Int × Int) = bytesOf1 (lenOf (n, u, 0) l.length 1) l) := ⟨by rw [← lenOf_neg hneg]; rfl⟩
      clear hr hb hc
      go_enter Try.func35, Try.ntmps35
      go_wp2_with (go_at_call 33; refine HG.out.mono ?_; rintro e w1 ⟨rfl, rfl⟩)
      go_ret3
      exact ⟨ret3_str HF.out, rfl⟩
    · by_cases hbig : (l.length : Int) - u < n
      · have HF : Aside0 (((⟨#[]⟩, 0, 10) : ByteArray × Int × Int) = bytesOf1 (lenOf (n, u, 0) l.length 1) l) := ⟨by rw [← lenOf_big (by omega) (by omega)]; rfl⟩
        clear hr hb hc
        go_enter Try.func35, Try.ntmps35
        go_wp2_with (go_at_call 33; refine HG.out.mono ?_; rintro e w1 ⟨rfl, rfl⟩)
        go_ret3
        exact ⟨ret3_str HF.out, rfl⟩
      · have HF : Aside0 (((strOfNums ((l.drop u.toNat).take n.toNat), u + n, 0) : ByteArray × Int × Int) = bytesOf1 (lenOf (n, u, 0) l.length 1) l) := ⟨by rw [← lenOf_ok (by omega) (by omega)]; rfl⟩
        obtain ⟨A1, c1, n1, hsl, hcv⟩ := cut8 A c l u (u + n) (by omega) (by omega) (by omega) hc
        have hcv' := hcv w hr
        rw [show u + n - u = n from by omega] at hcv'
        clear hcv hr hb hc
        go_enter Try.func35, Try.ntmps35
        go_wp2_with (go_at_call 33; refine HG.out.mono ?_; rintro e w1 ⟨rfl, rfl⟩)
        go_ret3
        exact ⟨ret3_str HF.out, rfl⟩
  · have hbe : (er != 0) = true := bne_iff_ne.2 he
    have HF : Aside0 (((⟨#[]⟩, 0, er) : ByteArray × Int × Int) = bytesOf1 (lenOf (n, u, er) l.length 1) l) := ⟨by rw [← lenOf_err he]; simp [bytesOf1, he]⟩
    clear he hr hb hc
    go_enter Try.func35, Try.ntmps35
    go_wp2_with (go_at_call 33; refine HG.out.mono ?_; rintro e w1 ⟨rfl, rfl⟩)
    go_ret3
    exact ⟨ret3_str HF.out, rfl⟩
end Go.Proofs.Ytfngbmcedkncjaa
