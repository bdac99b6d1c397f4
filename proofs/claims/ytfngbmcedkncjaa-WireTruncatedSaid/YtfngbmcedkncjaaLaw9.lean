/- WireTruncated (9): the walk. -/
import Derived.Test.YtfngbmcedkncjaaSane
import Derived.Test.YtfngbmcedkncjaaFew
import Derived.Test.YtfngbmcedkncjaaEnc
import Derived.Test.YtfngbmcedkncjaaDec
import Derived.Test.YtfngbmcedkncjaaBack
import Derived.Test.YtfngbmcedkncjaaTrunc
import Derived.Test.YtfngbmcedkncjaaCons
namespace Go.Proofs.Ytfngbmcedkncjaa
open Go.RowKit Go.Proofs.YtfngbmcedkncjaaW.PrintWords Go.Proofs.YtfngbmcedkncjaaW.PrintLast Go.Proofs.YtfngbmcedkncjaaW.PrintMore Plain
attribute [local go_sem] max2_int min2_int max_two min_two max_three min_three max_four min_four
set_option linter.unusedVariables false
set_option linter.unusedSimpArgs false

theorem eInts_len {l : List Int} (hl : l.length ≤ 9223372036854775807) (h : ∀ x ∈ l, I64 x) : (eInts l).length ≤ 10 + l.length * 10 := by
  rw [eInts, List.length_append]
  have h1 := eInt_length (i64_len hl)
  have h2 := flatMap_len eInt 10 l (fun x hx => eInt_length (h x hx))
  omega
theorem eBytes_len {s : ByteArray} (hl : s.size ≤ 9223372036854775807) : (eBytes s).length ≤ 10 + s.size := by
  rw [eBytes, List.length_append, bytesOf_length]
  have h1 := eInt_length (i64_len hl)
  omega
theorem flat_strs : ∀ {l : List ByteArray}, strBytes l ≤ 9223372036854775807 → (l.flatMap eBytes).length ≤ 10 * l.length + strBytes l
  | [], _ => by simp [strBytes]
  | x :: l, h => by
    have e : strBytes (x :: l) = x.size + strBytes l := by simp [strBytes]
    rw [e] at h ⊢
    have ih := flat_strs (l := l) (by omega)
    have h1 := eInt_length (n := (x.size : Int)) (by unfold I64; omega)
    rw [List.flatMap_cons, List.length_append, eBytes, List.length_append, bytesOf_length, List.length_cons]
    omega
theorem Own.some1 {e B : Nat} {w : World} {v : Value} {xs : List Int} (h : Own (Kd.int .u8) e B w v xs) (hp : 0 < xs.length) : ∃ ad c, v = .slice (some ad) xs.length c ∧ xs.length ≤ c ∧ Aside0 (Kd.C (Kd.int .u8) w (some ad) xs.length xs) := by
  obtain ⟨A, c, rfl, hc, hC⟩ := h.reads
  obtain ⟨ad, rfl, _⟩ := Kd.at_int hC 0 (by omega) (by omega)
  exact ⟨ad, c, rfl, hc, ⟨hC⟩⟩
theorem eStrs_len {l : List ByteArray} (h : l.length + strBytes l ≤ 9223372036854775807) : (eStrs l).length ≤ 10 + (10 * l.length + strBytes l) := by
  rw [eStrs, List.length_append]
  have h1 := eInt_length (i64_len (n := l.length) (by omega))
  have h2 := flat_strs (l := l) (by omega)
  omega
theorem eDigs_len {l : List (List Int)} (hl : l.length ≤ 9223372036854775807) (h : ∀ x ∈ l, x.length = 16) : (eDigs l).length ≤ 10 + l.length * 16 := by
  rw [eDigs, List.length_append]
  have h1 := eInt_length (i64_len hl)
  have h2 := flat_len l h l.length
  rw [List.take_length] at h2
  omega
theorem eInts_pos (l : List Int) : 0 < (eInts l).length := by rw [eInts, List.length_append]; have := eInt_pos (l.length : Int); omega
theorem eStrs_pos (l : List ByteArray) : 0 < (eStrs l).length := by rw [eStrs, List.length_append]; have := eInt_pos (l.length : Int); omega
theorem eDigs_pos (l : List (List Int)) : 0 < (eDigs l).length := by rw [eDigs, List.length_append]; have := eInt_pos (l.length : Int); omega
theorem alloc_size (w : World) (o : Obj) : w.heap.size < (w.alloc o).heap.size := by
  have h := (MapKept.heap_alloc w o).1
  exact (Array.getElem?_eq_some_iff.1 h).1
theorem alloc_cells (w : World) (cs : Array Value) (t : TypeId) (j : Nat) (u : Value) (h : cs[j]? = some u) : (w.alloc (.cells cs t)).cell? ⟨w.heap.size, j, none⟩ = some u := by
  rw [World.cell?_alloc_at cs t w.heap.size j rfl]
  exact h

set_option maxHeartbeats 4000000 in
set_option maxRecDepth 100000 in
theorem law9 (n : Int) (hn : I64 n) (s : ByteArray) (A1 : Option Addr) (c1 : Nat) (l1 : List Int) (A2 : Option Addr) (c2 : Nat) (l2 : List ByteArray) (A3 : Option Addr) (c3 : Nat) (l3 : List (List Int)) (w : World)
    (hr1 : Kd.C (Kd.int .i64) w A1 l1.length l1) (hc1 : l1.length ≤ c1) (hw1 : ∀ x ∈ l1, I64 x) (hr2 : Kd.C Kd.string w A2 l2.length l2) (hc2 : l2.length ≤ c2) (hw2 : ∀ x ∈ l2, x.size ≤ 9223372036854775807)
    (hr3 : Kd.C dgK w A3 l3.length l3) (hc3 : l3.length ≤ c3) (hw3 : ∀ x ∈ l3, Bytes8 x)
    (hs1 : s.size + 10 * l1.length + 16 * l3.length ≤ 9223372036854775807) (hs2 : l2.length ≤ 40 → l2.length + strBytes l2 ≤ 9223372036854775807) :
    Calls Try.prog 9 #[.int .i64 n, .string s, .slice A1 l1.length c1, .slice A2 l2.length c2, .slice A3 l3.length c3] w fun e w' => e = .returned (.bool true) ∧ Bel w.heap.size w w' := by
  have HN := Aside0.mk hn
  have HR1 := Aside0.mk hr1
  have HR2 := Aside0.mk hr2
  have HR3 := Aside0.mk hr3
  have HC1 := Aside0.mk hc1
  have HC2 := Aside0.mk hc2
  have HC3 := Aside0.mk hc3
  have HW1 := Aside0.mk hw1
  have HW2 := Aside0.mk hw2
  have HW3 := Aside0.mk hw3
  have HD3 := Aside0.mk (C_all hr3)
  have HM2 := Aside0.mk hr2.2.1
  have m2 := hr2.2.1
  by_cases hbig : 400 < s.size + 10 * l1.length + 16 * l3.length
  · have h1 : ((s.size : Int) + 10 * (l1.length : Int) + 16 * (l3.length : Int) > 400) := by omega
    clear hn hr1 hr2 hr3 hc1 hc2 hc3 hw1 hw2 hw3 hs2
    go_enter Try.func9, Try.ntmps9
    go_wp2_with (go_at_call 20; refine (sanity_calls _).mono ?_; rintro e w1 ⟨rfl, HB⟩)
    go_ret
    exact ⟨rfl, HB⟩
  · have h1 : ¬ ((s.size : Int) + 10 * (l1.length : Int) + 16 * (l3.length : Int) > 400) := by omega
    by_cases h40 : 40 < l2.length
    · clear hn hr1 hr2 hr3 hc1 hc2 hc3 hw1 hw2 hw3 hs2
      have h2 : (l2.length : Int) > 40 := by omega
      go_enter Try.func9, Try.ntmps9
      go_wp2_with (go_at_call 20; refine (sanity_calls _).mono ?_; rintro e w1 ⟨rfl, HB⟩)
      go_ret
      exact ⟨rfl, HB⟩
    · have hs3 := hs2 (by omega)
      have HF := Aside0.mk (few_calls A2 c2 l2 w hr2 hs3)
      clear hn hr1 hr2 hr3 hc1 hc2 hc3 hw1 hw2 hw3 hs2
      by_cases hfew : 2000 < l2.length + strBytes l2
      · rw [decide_eq_false (by omega)] at HF
        clear hfew hs3
        go_enter Try.func9, Try.ntmps9
        go_wp2_with (first | (go_at_call 19; refine HF.out.mono ?_; rintro e w1 ⟨rfl, rfl⟩) | (go_at_call 20; refine (sanity_calls _).mono ?_; rintro e w1 ⟨rfl, HB⟩))
        go_ret
        exact ⟨rfl, HB⟩
      · rw [decide_eq_true (by omega)] at HF
        have L2 := Aside0.mk (flat_strs (l := l2) (by omega))
        have S1 : Aside0 (s.size + 10 * l1.length + 16 * l3.length ≤ 400) := ⟨by omega⟩
        have S2 : Aside0 (l2.length + strBytes l2 ≤ 2000) := ⟨by omega⟩
        have B1 := Aside0.mk (eBytes_len (s := s) (by omega))
        have B2 := Aside0.mk (eInts_len (l := l1) (by omega) HW1.out)
        have B3 := Aside0.mk (eDigs_len (l := l3) (by omega) HD3.out)
        have B4 := Aside0.mk (eStrs_len hs3)
        clear hfew hs3
        go_enter Try.func9, Try.ntmps9
        go_wp2_with (first | (go_at_call 19; refine HF.out.mono ?_; rintro e w1 ⟨rfl, rfl⟩) | fail)
        refine (Int_calls n HN.out _).mono ?_
        rintro e w0 ⟨v0, rfl, HO0, HB⟩
        go_wp2_with fail
        refine (Bytes_calls s (by have := S1.out; omega) _).mono ?_
        rintro e w1 ⟨v1, rfl, HO1, hb⟩
        replace HB := HB.trans hb
        replace HO0 := HO0.bel hb
        clear hb
        go_wp2_with fail
        refine (Ints_calls A1 c1 l1 _ (Kd.C_below HR1.out HB.out) HC1.out HW1.out (by have := S1.out; omega)).mono ?_
        rintro e w2 ⟨v2, rfl, HO2, hb⟩
        replace HB := HB.trans hb
        replace HO0 := HO0.bel hb
        replace HO1 := HO1.bel hb
        clear hb
        go_wp2_with fail
        refine (Strings_calls A2 c2 l2 _ (Kd.C_below HR2.out HB.out) HC2.out (by have := S2.out; omega) (by have := S2.out; have := L2.out; omega)).mono ?_
        rintro e w3 ⟨v3, rfl, HO3, hb⟩
        replace HB := HB.trans hb
        replace HO0 := HO0.bel hb
        replace HO1 := HO1.bel hb
        replace HO2 := HO2.bel hb
        clear hb
        go_wp2_with fail
        refine (Digests_calls A3 c3 l3 _ (Kd.C_below HR3.out HB.out) HC3.out (by have := S1.out; omega)).mono ?_
        rintro e w4 ⟨v4, rfl, HO4, hb⟩
        replace HB := HB.trans hb
        replace HO0 := HO0.bel hb
        replace HO1 := HO1.bel hb
        replace HO2 := HO2.bel hb
        replace HO3 := HO3.bel hb
        clear hb
        obtain ⟨ad0, k0, rfl, hk0, HX0⟩ := HO0.some1 (eInt_pos n)
        obtain ⟨ad1, k1, rfl, hk1, HX1⟩ := HO1.some1 (eBytes_pos s)
        obtain ⟨ad2, k2, rfl, hk2, HX2⟩ := HO2.some1 (eInts_pos l1)
        obtain ⟨ad3, k3, rfl, hk3, HX3⟩ := HO3.some1 (eStrs_pos l2)
        obtain ⟨ad4, k4, rfl, hk4, HX4⟩ := HO4.some1 (eDigs_pos l3)
        clear HO0 HO1 HO2 HO3 HO4 h1 h40 hbig hs1
        have HK0 := Aside0.mk hk0
        have HK1 := Aside0.mk hk1
        have HK2 := Aside0.mk hk2
        have HK3 := Aside0.mk hk3
        have HK4 := Aside0.mk hk4
        clear hk0 hk1 hk2 hk3 hk4
        go_wp2
        have HZ : ∀ j u, (#[Value.slice (some ad0) (eInt n).length k0, Value.slice (some ad1) (eBytes s).length k1, Value.slice (some ad2) (eInts l1).length k2, Value.slice (some ad3) (eStrs l2).length k3, Value.slice (some ad4) (eDigs l3).length k4] : Array Value)[j]? = some u → (w4.alloc (.cells #[Value.slice (some ad0) (eInt n).length k0, Value.slice (some ad1) (eBytes s).length k1, Value.slice (some ad2) (eInts l1).length k2, Value.slice (some ad3) (eStrs l2).length k3, Value.slice (some ad4) (eDigs l3).length k4] 28)).cell? ⟨w4.heap.size, j, none⟩ = some u := by
          exact fun j u hu => alloc_cells w4 _ 28 j u hu
        replace HX0 := Aside0.mk (Kd.C_below HX0.out ((Below.refl _ _).alloc (Nat.le_refl _) (.cells #[Value.slice (some ad0) (eInt n).length k0, Value.slice (some ad1) (eBytes s).length k1, Value.slice (some ad2) (eInts l1).length k2, Value.slice (some ad3) (eStrs l2).length k3, Value.slice (some ad4) (eDigs l3).length k4] 28)))
        replace HX1 := Aside0.mk (Kd.C_below HX1.out ((Below.refl _ _).alloc (Nat.le_refl _) (.cells #[Value.slice (some ad0) (eInt n).length k0, Value.slice (some ad1) (eBytes s).length k1, Value.slice (some ad2) (eInts l1).length k2, Value.slice (some ad3) (eStrs l2).length k3, Value.slice (some ad4) (eDigs l3).length k4] 28)))
        replace HX2 := Aside0.mk (Kd.C_below HX2.out ((Below.refl _ _).alloc (Nat.le_refl _) (.cells #[Value.slice (some ad0) (eInt n).length k0, Value.slice (some ad1) (eBytes s).length k1, Value.slice (some ad2) (eInts l1).length k2, Value.slice (some ad3) (eStrs l2).length k3, Value.slice (some ad4) (eDigs l3).length k4] 28)))
        replace HX3 := Aside0.mk (Kd.C_below HX3.out ((Below.refl _ _).alloc (Nat.le_refl _) (.cells #[Value.slice (some ad0) (eInt n).length k0, Value.slice (some ad1) (eBytes s).length k1, Value.slice (some ad2) (eInts l1).length k2, Value.slice (some ad3) (eStrs l2).length k3, Value.slice (some ad4) (eDigs l3).length k4] 28)))
        replace HX4 := Aside0.mk (Kd.C_below HX4.out ((Below.refl _ _).alloc (Nat.le_refl _) (.cells #[Value.slice (some ad0) (eInt n).length k0, Value.slice (some ad1) (eBytes s).length k1, Value.slice (some ad2) (eInts l1).length k2, Value.slice (some ad3) (eStrs l2).length k3, Value.slice (some ad4) (eDigs l3).length k4] 28)))
        replace HB := HB.alloc (.cells #[Value.slice (some ad0) (eInt n).length k0, Value.slice (some ad1) (eBytes s).length k1, Value.slice (some ad2) (eInts l1).length k2, Value.slice (some ad3) (eStrs l2).length k3, Value.slice (some ad4) (eDigs l3).length k4] 28)
        have hsz : w4.heap.size < (w4.alloc (.cells #[Value.slice (some ad0) (eInt n).length k0, Value.slice (some ad1) (eBytes s).length k1, Value.slice (some ad2) (eInts l1).length k2, Value.slice (some ad3) (eStrs l2).length k3, Value.slice (some ad4) (eDigs l3).length k4] 28)).heap.size := alloc_size _ _
        generalize w4.alloc (.cells #[Value.slice (some ad0) (eInt n).length k0, Value.slice (some ad1) (eBytes s).length k1, Value.slice (some ad2) (eInts l1).length k2, Value.slice (some ad3) (eStrs l2).length k3, Value.slice (some ad4) (eDigs l3).length k4] 28) = W0 at *
        have HZ0 := Aside0.mk (HZ 0 _ rfl)
        have HZ1 := Aside0.mk (HZ 1 _ rfl)
        have HZ2 := Aside0.mk (HZ 2 _ rfl)
        have HZ3 := Aside0.mk (HZ 3 _ rfl)
        have HZ4 := Aside0.mk (HZ 4 _ rfl)
        have HSZ := Aside0.mk hsz
        clear HZ hsz
        have HB0 := Bel.refl W0
        generalize w4.heap.size = b0 at *
        go_loopw [10, 49] (fun v10 v49 wr => v10 = .bool false ∧ ∃ j : Nat, v49 = .int .i64 j ∧ j ≤ 5 ∧ Bel w.heap.size w wr ∧ Bel W0.heap.size W0 wr) (fun _ v49 _ => 5 - (intOf v49).toNat)
        case atStart => exact ⟨rfl, 0, rfl, by omega, HB, HB0⟩
        case round =>
          clear HB HB0
          obtain ⟨rfl, j, rfl, hj, HB, HB0⟩ := hrel
          rcases (show j = 0 ∨ j = 1 ∨ j = 2 ∨ j = 3 ∨ j = 4 ∨ j = 5 by omega) with rfl | rfl | rfl | rfl | rfl | rfl
          · have hcell := pw_cell_below HB0.out HZ0.out
            obtain ⟨M, hM⟩ : ∃ M, M = min (eInt n).length 500 := ⟨_, rfl⟩
            have q1 : (if (500 : Int) < ((eInt n).length : Int) then (500 : Int) else ((eInt n).length : Int)) = (M : Int) := by split <;> omega
            have q2 : (if 500 < (eInt n).length then (500 : Int) else ((eInt n).length : Int)) = (M : Int) := by split <;> omega
            have hM1 : M ≤ (eInt n).length := by omega
            have hM2 : M ≤ 500 := by omega
            clear hM
            go_wp2
            go_loopw [10, 57] (fun v10 v57 wi => v10 = .bool false ∧ ∃ k : Nat, v57 = .int .i64 k ∧ k ≤ M ∧ Bel w.heap.size w wi ∧ Bel W0.heap.size W0 wi) (fun _ v57 _ => M - (intOf v57).toNat)
            case atStart => exact ⟨rfl, 0, rfl, by omega, HB, HB0⟩
            case round =>
              clear HB HB0
              obtain ⟨rfl, k, rfl, hk, HB, HB0⟩ := hrel
              by_cases hkM : k < M
              · have hq : (k : Int) < (M : Int) := by omega
                have hlt : k < (eInt n).length := by omega
                have hs := cut_to (some ad0) (eInt n).length k0 (k : Int) (by omega) (by omega) HK0.out
                rw [Int.toNat_natCast] at hs
                have HC := Kd.C_take (m := k) (Kd.C_below HX0.out HB0.out) (by omega)
                have hkl : ((eInt n).take k).length = k := by rw [List.length_take]; omega
                have HCALL := Aside0.mk (GetInt_calls (some ad0) k0 ((eInt n).take k) _ HC (by have := HK0.out; rw [List.length_take]; omega) (bytes8_take (eInt_bytes HN.out) k))
                rw [hkl] at HCALL
                rw [dInt_trunc HN.out hlt] at HCALL
                clear hkl HC hlt
                go_wp2_with fail
                refine HCALL.out.mono ?_
                rintro e w6 ⟨rfl, rfl⟩
                go_wp2
                go_roundw
                case rel =>
                  repeat apply Exists.intro
                  refine And.intro ?_ rfl
                  exact ⟨rfl, k + 1, by go_num, by omega, HB, HB0⟩
                case measure => simp [intOf]; omega
              · obtain rfl : k = M := by omega
                go_wp2
                go_roundw
                case rel => exact ⟨rfl, 1, rfl, by omega, HB, HB0⟩
                case measure => simp [intOf]
          · have hcell := pw_cell_below HB0.out HZ1.out
            obtain ⟨M, hM⟩ : ∃ M, M = min (eBytes s).length 500 := ⟨_, rfl⟩
            have q1 : (if (500 : Int) < ((eBytes s).length : Int) then (500 : Int) else ((eBytes s).length : Int)) = (M : Int) := by split <;> omega
            have q2 : (if 500 < (eBytes s).length then (500 : Int) else ((eBytes s).length : Int)) = (M : Int) := by split <;> omega
            have hM1 : M ≤ (eBytes s).length := by omega
            have hM2 : M ≤ 500 := by omega
            clear hM
            go_wp2
            go_loopw [10, 57] (fun v10 v57 wi => v10 = .bool false ∧ ∃ k : Nat, v57 = .int .i64 k ∧ k ≤ M ∧ Bel w.heap.size w wi ∧ Bel W0.heap.size W0 wi) (fun _ v57 _ => M - (intOf v57).toNat)
            case atStart => exact ⟨rfl, 0, rfl, by omega, HB, HB0⟩
            case round =>
              clear HB HB0
              obtain ⟨rfl, k, rfl, hk, HB, HB0⟩ := hrel
              by_cases hkM : k < M
              · have hq : (k : Int) < (M : Int) := by omega
                have hlt : k < (eBytes s).length := by omega
                have hs := cut_to (some ad1) (eBytes s).length k1 (k : Int) (by omega) (by omega) HK1.out
                rw [Int.toNat_natCast] at hs
                have HC := Kd.C_take (m := k) (Kd.C_below HX1.out HB0.out) (by omega)
                have hkl : ((eBytes s).take k).length = k := by rw [List.length_take]; omega
                have HCALL := Aside0.mk (GetBytes_calls (some ad1) k1 ((eBytes s).take k) _ HC (by have := HK1.out; rw [List.length_take]; omega) (bytes8_take (eBytes_bytes (by have := S1.out; omega)) k) HC.2.1)
                rw [hkl] at HCALL
                rw [dBytes_trunc (by have := S1.out; omega) hlt] at HCALL
                clear hkl HC hlt
                go_wp2_with fail
                refine HCALL.out.mono ?_
                rintro e w6 ⟨rfl, rfl⟩
                go_wp2
                go_roundw
                case rel =>
                  repeat apply Exists.intro
                  refine And.intro ?_ rfl
                  exact ⟨rfl, k + 1, by go_num, by omega, HB, HB0⟩
                case measure => simp [intOf]; omega
              · obtain rfl : k = M := by omega
                go_wp2
                go_roundw
                case rel => exact ⟨rfl, 2, rfl, by omega, HB, HB0⟩
                case measure => simp [intOf]
          · have hcell := pw_cell_below HB0.out HZ2.out
            obtain ⟨M, hM⟩ : ∃ M, M = min (eInts l1).length 500 := ⟨_, rfl⟩
            have q1 : (if (500 : Int) < ((eInts l1).length : Int) then (500 : Int) else ((eInts l1).length : Int)) = (M : Int) := by split <;> omega
            have q2 : (if 500 < (eInts l1).length then (500 : Int) else ((eInts l1).length : Int)) = (M : Int) := by split <;> omega
            have hM1 : M ≤ (eInts l1).length := by omega
            have hM2 : M ≤ 500 := by omega
            clear hM
            go_wp2
            go_loopw [10, 57] (fun v10 v57 wi => v10 = .bool false ∧ ∃ k : Nat, v57 = .int .i64 k ∧ k ≤ M ∧ Bel w.heap.size w wi ∧ Bel W0.heap.size W0 wi) (fun _ v57 _ => M - (intOf v57).toNat)
            case atStart => exact ⟨rfl, 0, rfl, by omega, HB, HB0⟩
            case round =>
              clear HB HB0
              obtain ⟨rfl, k, rfl, hk, HB, HB0⟩ := hrel
              by_cases hkM : k < M
              · have hq : (k : Int) < (M : Int) := by omega
                have hlt : k < (eInts l1).length := by omega
                have hs := cut_to (some ad2) (eInts l1).length k2 (k : Int) (by omega) (by omega) HK2.out
                rw [Int.toNat_natCast] at hs
                have HC := Kd.C_take (m := k) (Kd.C_below HX2.out HB0.out) (by omega)
                have hkl : ((eInts l1).take k).length = k := by rw [List.length_take]; omega
                have HCALL := Aside0.mk (GetInts_calls (some ad2) k2 ((eInts l1).take k) _ HC (by have := HK2.out; rw [List.length_take]; omega) (bytes8_take (eInts_bytes (by have := S1.out; omega) HW1.out) k) (by have := B2.out; have := S1.out; rw [List.length_take]; omega))
                rw [hkl] at HCALL
                have HER := dInts_trunc (by have := S1.out; omega) HW1.out hlt
                clear hkl HC hlt
                go_wp2_with fail
                refine HCALL.out.mono ?_
                rintro e w6 ⟨v6, rfl, -, hb⟩
                rw [HER]
                replace HB := HB.trans hb
                replace HB0 := HB0.trans hb
                clear hb HER
                go_wp2
                go_roundw
                case rel =>
                  repeat apply Exists.intro
                  refine And.intro ?_ rfl
                  exact ⟨rfl, k + 1, by go_num, by omega, HB, HB0⟩
                case measure => simp [intOf]; omega
              · obtain rfl : k = M := by omega
                go_wp2
                go_roundw
                case rel => exact ⟨rfl, 3, rfl, by omega, HB, HB0⟩
                case measure => simp [intOf]
          · have hcell := pw_cell_below HB0.out HZ3.out
            obtain ⟨M, hM⟩ : ∃ M, M = min (eStrs l2).length 500 := ⟨_, rfl⟩
            have q1 : (if (500 : Int) < ((eStrs l2).length : Int) then (500 : Int) else ((eStrs l2).length : Int)) = (M : Int) := by split <;> omega
            have q2 : (if 500 < (eStrs l2).length then (500 : Int) else ((eStrs l2).length : Int)) = (M : Int) := by split <;> omega
            have hM1 : M ≤ (eStrs l2).length := by omega
            have hM2 : M ≤ 500 := by omega
            clear hM
            go_wp2
            go_loopw [10, 57] (fun v10 v57 wi => v10 = .bool false ∧ ∃ k : Nat, v57 = .int .i64 k ∧ k ≤ M ∧ Bel w.heap.size w wi ∧ Bel W0.heap.size W0 wi) (fun _ v57 _ => M - (intOf v57).toNat)
            case atStart => exact ⟨rfl, 0, rfl, by omega, HB, HB0⟩
            case round =>
              clear HB HB0
              obtain ⟨rfl, k, rfl, hk, HB, HB0⟩ := hrel
              by_cases hkM : k < M
              · have hq : (k : Int) < (M : Int) := by omega
                have hlt : k < (eStrs l2).length := by omega
                have hs := cut_to (some ad3) (eStrs l2).length k3 (k : Int) (by omega) (by omega) HK3.out
                rw [Int.toNat_natCast] at hs
                have HC := Kd.C_take (m := k) (Kd.C_below HX3.out HB0.out) (by omega)
                have hkl : ((eStrs l2).take k).length = k := by rw [List.length_take]; omega
                have HCALL := Aside0.mk (GetStrings_calls (some ad3) k3 ((eStrs l2).take k) _ HC (by have := HK3.out; rw [List.length_take]; omega) (bytes8_take (eStrs_bytes (by have := S2.out; omega) HW2.out) k) (by have := B4.out; have := S2.out; rw [List.length_take]; omega))
                rw [hkl] at HCALL
                have HER := dStrs_trunc (by have := S2.out; omega) HW2.out hlt
                clear hkl HC hlt
                go_wp2_with fail
                refine HCALL.out.mono ?_
                rintro e w6 ⟨v6, rfl, -, hb⟩
                rw [HER]
                replace HB := HB.trans hb
                replace HB0 := HB0.trans hb
                clear hb HER
                go_wp2
                go_roundw
                case rel =>
                  repeat apply Exists.intro
                  refine And.intro ?_ rfl
                  exact ⟨rfl, k + 1, by go_num, by omega, HB, HB0⟩
                case measure => simp [intOf]; omega
              · obtain rfl : k = M := by omega
                go_wp2
                go_roundw
                case rel => exact ⟨rfl, 4, rfl, by omega, HB, HB0⟩
                case measure => simp [intOf]
          · have hcell := pw_cell_below HB0.out HZ4.out
            obtain ⟨M, hM⟩ : ∃ M, M = min (eDigs l3).length 500 := ⟨_, rfl⟩
            have q1 : (if (500 : Int) < ((eDigs l3).length : Int) then (500 : Int) else ((eDigs l3).length : Int)) = (M : Int) := by split <;> omega
            have q2 : (if 500 < (eDigs l3).length then (500 : Int) else ((eDigs l3).length : Int)) = (M : Int) := by split <;> omega
            have hM1 : M ≤ (eDigs l3).length := by omega
            have hM2 : M ≤ 500 := by omega
            clear hM
            go_wp2
            go_loopw [10, 57] (fun v10 v57 wi => v10 = .bool false ∧ ∃ k : Nat, v57 = .int .i64 k ∧ k ≤ M ∧ Bel w.heap.size w wi ∧ Bel W0.heap.size W0 wi) (fun _ v57 _ => M - (intOf v57).toNat)
            case atStart => exact ⟨rfl, 0, rfl, by omega, HB, HB0⟩
            case round =>
              clear HB HB0
              obtain ⟨rfl, k, rfl, hk, HB, HB0⟩ := hrel
              by_cases hkM : k < M
              · have hq : (k : Int) < (M : Int) := by omega
                have hlt : k < (eDigs l3).length := by omega
                have hs := cut_to (some ad4) (eDigs l3).length k4 (k : Int) (by omega) (by omega) HK4.out
                rw [Int.toNat_natCast] at hs
                have HC := Kd.C_take (m := k) (Kd.C_below HX4.out HB0.out) (by omega)
                have hkl : ((eDigs l3).take k).length = k := by rw [List.length_take]; omega
                have HCALL := Aside0.mk (GetDigests_calls (some ad4) k4 ((eDigs l3).take k) _ HC (by have := HK4.out; rw [List.length_take]; omega) (bytes8_take (eDigs_bytes (by have := S1.out; omega) HW3.out) k) (by have := B3.out; have := S1.out; rw [List.length_take]; omega))
                rw [hkl] at HCALL
                have HER := dDigs_trunc (by have := S1.out; omega) HD3.out hlt
                clear hkl HC hlt
                go_wp2_with fail
                refine HCALL.out.mono ?_
                rintro e w6 ⟨v6, rfl, -, hb⟩
                rw [HER]
                replace HB := HB.trans hb
                replace HB0 := HB0.trans hb
                clear hb HER
                go_wp2
                go_roundw
                case rel =>
                  repeat apply Exists.intro
                  refine And.intro ?_ rfl
                  exact ⟨rfl, k + 1, by go_num, by omega, HB, HB0⟩
                case measure => simp [intOf]; omega
              · obtain rfl : k = M := by omega
                go_wp2
                go_roundw
                case rel => exact ⟨rfl, 5, rfl, by omega, HB, HB0⟩
                case measure => simp [intOf]
          · go_wp2_with (go_at_call 20; refine (sanity_calls _).mono ?_; rintro e w6 ⟨rfl, hb⟩; replace HB := HB.trans hb)
            go_ret
            exact ⟨rfl, HB⟩
end Go.Proofs.Ytfngbmcedkncjaa
