/- WireIntRoundTrip (6): the walk. -/
import Derived.Test.YtfngbmcedkncjaaSane
import Derived.Test.YtfngbmcedkncjaaFull
import Derived.Test.YtfngbmcedkncjaaPure
namespace Go.Proofs.Ytfngbmcedkncjaa
open Go.RowKit Go.Proofs.YtfngbmcedkncjaaW.PrintWords Go.Proofs.YtfngbmcedkncjaaW.PrintLast Go.Proofs.YtfngbmcedkncjaaW.PrintMore Plain
attribute [local go_sem] max2_int min2_int max_two min_two max_three min_three max_four min_four
set_option linter.unusedVariables false
set_option linter.unusedSimpArgs false

theorem bytes8_app {a b : List Int} (ha : Bytes8 a) (hb : Bytes8 b) : Bytes8 (a ++ b) := by
  intro x hx
  rcases List.mem_append.1 hx with h | h
  · exact ha x h
  · exact hb x h
/-- Owned bytes that are not none lie somewhere. -/
theorem Own.some8 {e B : Nat} {w : World} {v : Value} {xs : List Int} (h : Own (Kd.int .u8) e B w v xs) (hp : 0 < xs.length) : ∃ ad c, v = .slice (some ad) xs.length c ∧ xs.length ≤ c ∧ Kd.C (Kd.int .u8) w (some ad) xs.length xs := by
  obtain ⟨A, c, rfl, hc, hC⟩ := h.reads
  obtain ⟨ad, rfl, _⟩ := Kd.at_int hC 0 (by omega) (by omega)
  exact ⟨ad, c, rfl, hc, hC⟩
/-- GetInt of an encoding and what follows. -/
theorem GetInt_back {n : Int} (hn : I64 n) {t : List Int} (ht : Bytes8 t) {W : World} {v : Value} (h : Reads8 W v (eInt n ++ t)) :
    Calls Try.prog 32 #[v] W fun e w' => e = .returned (.tuple #[.int .i64 n, .int .i64 ((eInt n).length : Int), .int .i64 0]) ∧ W = w' := by
  obtain ⟨A, c, rfl, hc, hC⟩ := h
  have := GetInt_calls A c (eInt n ++ t) W hC hc (bytes8_app (eInt_bytes hn) ht)
  rw [dInt_enc hn t] at this
  exact this

set_option maxHeartbeats 1000000 in
set_option maxRecDepth 100000 in
theorem law6 (n : Int) (hn : I64 n) (A : Option Addr) (c : Nat) (l : List Int) (w : World) (hr : Kd.C (Kd.int .u8) w A l.length l) (hc : l.length ≤ c) (hb : Bytes8 l) :
    Calls Try.prog 6 #[.int .i64 n, .slice A l.length c] w fun e w' => e = .returned (.bool true) ∧ Bel w.heap.size w w' := by
  have HR := Aside0.mk hr
  have HN := Aside0.mk hn
  have HB8 := Aside0.mk hb
  have HE := Aside0.mk (eInt_length hn)
  have HP := Aside0.mk (eInt_pos n)
  clear hr hc hb hn
  by_cases hbig : 2000 < l.length
  · go_enter Try.func6, Try.ntmps6
    go_wp2_with (go_at_call 20; refine (sanity_calls _).mono ?_; rintro e w1 ⟨rfl, HB⟩)
    go_ret
    exact ⟨rfl, HB⟩
  · go_enter Try.func6, Try.ntmps6
    go_wp2_with fail
    refine (Int_calls n HN.out _).mono ?_
    rintro e w1 ⟨v, rfl, HO, HB⟩
    obtain ⟨ad, c1, rfl, hc1, hC1⟩ := HO.some8 HP.out
    have hcf := cut_full (some ad) (eInt n).length c1 hc1 (by have := HE.out; omega)
    have HC1 := Aside0.mk hC1
    clear hC1 HO
    go_wp2_with (at_builtin; refine ap_full HC1.out (Kd.C_below HR.out HB.out) (by have := HE.out; omega) rfl rfl rfl rfl ?_; intro v2 w2 HRd HB2)
    refine (GetInt_back HN.out HB8.out HRd).mono ?_
    rintro e w3 ⟨rfl, rfl⟩
    replace HB := HB.trans HB2
    clear HB2 HRd
    go_wp2_with fail
    refine (sanity_calls _).mono ?_
    rintro e w4 ⟨rfl, HB2⟩
    replace HB := HB.trans HB2
    have h1 : (1 : Int) ≤ ((eInt n).length : Int) := by have := HP.out; omega
    have h2 : ((eInt n).length : Int) ≤ 10 := by have := HE.out; omega
    go_wp2
    go_ret
    exact ⟨rfl, HB⟩
end Go.Proofs.Ytfngbmcedkncjaa
