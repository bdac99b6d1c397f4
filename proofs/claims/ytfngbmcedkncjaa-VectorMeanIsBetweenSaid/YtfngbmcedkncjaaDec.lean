/- wire.GetInts, GetStrings, GetDigests (36, 39, 42) and the reference's (37, 40). -/
import Derived.Test.YtfngbmcedkncjaaGetD
namespace Go.Proofs.Ytfngbmcedkncjaa
open Go.RowKit Go.Proofs.YtfngbmcedkncjaaW.PrintWords Go.Proofs.YtfngbmcedkncjaaW.PrintLast Go.Proofs.YtfngbmcedkncjaaW.PrintMore Plain
attribute [local go_sem] max2_int min2_int max_two min_two max_three min_three max_four min_four
set_option linter.unusedVariables false
set_option linter.unusedSimpArgs false

set_option maxHeartbeats 400000 in
set_option maxRecDepth 100000 in
theorem GetInts_calls (A : Option Addr) (c : Nat) (l : List Int) (w : World) (hr : Kd.C (Kd.int .u8) w A l.length l) (hc : l.length ≤ c) (hb : Bytes8 l) (hn : (l.length + 1) * 16 ≤ 140737488355328) :
    Calls Try.prog 36 #[.slice A l.length c] w fun e w' => Gave (Kd.int .i64) 3 w.heap.size w w' (dInts l) e := by
  have H := Aside0.mk (get_int_calls A c l w hr hc hb hn)
  clear hr hc hb hn
  generalize dInts l = t at *
  go_enter Try.func36, Try.ntmps36
  go_wp2_with (go_at_call 76; refine H.out.mono ?_; rintro e w1 ⟨v, rfl, HO, HB⟩)
  go_ret3
  exact ⟨v, rfl, HO, HB⟩
set_option maxHeartbeats 400000 in
set_option maxRecDepth 100000 in
theorem GetStrings_calls (A : Option Addr) (c : Nat) (l : List Int) (w : World) (hr : Kd.C (Kd.int .u8) w A l.length l) (hc : l.length ≤ c) (hb : Bytes8 l) (hn : (l.length + 1) * 16 ≤ 140737488355328) :
    Calls Try.prog 39 #[.slice A l.length c] w fun e w' => Gave Kd.string 9 w.heap.size w w' (dStrs l) e := by
  have H := Aside0.mk (get_str_calls A c l w hr hc hb hn)
  clear hr hc hb hn
  generalize dStrs l = t at *
  go_enter Try.func39, Try.ntmps39
  go_wp2_with (go_at_call 78; refine H.out.mono ?_; rintro e w1 ⟨v, rfl, HO, HB⟩)
  go_ret3
  exact ⟨v, rfl, HO, HB⟩
set_option maxHeartbeats 400000 in
set_option maxRecDepth 100000 in
theorem GetDigests_calls (A : Option Addr) (c : Nat) (l : List Int) (w : World) (hr : Kd.C (Kd.int .u8) w A l.length l) (hc : l.length ≤ c) (hb : Bytes8 l) (hn : (l.length + 1) * 16 ≤ 140737488355328) :
    Calls Try.prog 42 #[.slice A l.length c] w fun e w' => Gave dgK 77 w.heap.size w w' (dDigs l) e := by
  have H := Aside0.mk (get_dig_calls A c l w hr hc hb hn)
  clear hr hc hb hn
  generalize dDigs l = t at *
  go_enter Try.func42, Try.ntmps42
  go_wp2_with (go_at_call 79; refine H.out.mono ?_; rintro e w1 ⟨v, rfl, HO, HB⟩)
  go_ret3
  exact ⟨v, rfl, HO, HB⟩

set_option maxHeartbeats 400000 in
set_option maxRecDepth 100000 in
theorem refGetInts_calls (A : Option Addr) (c : Nat) (l : List Int) (w : World) (hr : Kd.C (Kd.int .u8) w A l.length l) (hc : l.length ≤ c) (hb : Bytes8 l) (hn : (l.length + 1) * 16 ≤ 140737488355328) :
    Calls Try.prog 37 #[.slice A l.length c] w fun e w' => Gave (Kd.int .i64) 3 w.heap.size w w' (dInts l) e := by
  have HR := Aside0.mk hr
  have HC := Aside0.mk hc
  have HB8 := Aside0.mk hb
  have HG := Aside0.mk (reflength_calls A c l 1 w hr hc hb (by omega) (by omega) (by omega))
  have hR := dLen_range (m := 1) hb (by omega)
  have hT : dInts l = getOf (dLen l 1) dInt l := rfl
  rw [hT]
  clear hT
  have hlen : l.length ≤ 9223372036854775807 := by omega
  have HN := Aside0.mk hn
  generalize dLen l 1 = t at *
  obtain ⟨n, u, er⟩ := t
  obtain ⟨h1, h2, h3, h4⟩ := hR
  simp only at h1 h2 h3 h4
  by_cases he : er = 0
  · subst he
    obtain ⟨h5, h6, h7, h8⟩ := h3 rfl
    have h9 : n ≤ (l.length : Int) - u := by omega
    obtain ⟨N, rfl⟩ := Int.eq_ofNat_of_zero_le h5
    have HT : Aside0 (app [] (dList dInt l (N - 0) u) = getOf ((N : Int), u, 0) dInt l) := ⟨by rw [dList_app]; simp [getOf]⟩
    generalize getOf ((N : Int), u, 0) dInt l = T at *
    clear hr hb h1 h3 h4 h8 hc hn
    go_enter Try.func37, Try.ntmps37
    go_wp2_with (go_at_call 77; refine HG.out.mono ?_; rintro e w1 ⟨rfl, rfl⟩)
    have hNl : N ≤ l.length := by omega
    go_loopw [6, 8, 9] (fun v10 v12 v27 wr => ∃ (i : Nat) (p : Int) (acc : List Int), v27 = .int .i64 i ∧ i ≤ N ∧ v10 = .int .i64 p ∧ 0 ≤ p ∧ p ≤ l.length ∧ Own (Kd.int .i64) 3 w.heap.size wr v12 acc ∧ Bel w.heap.size w wr ∧ Aside0 (acc.length = i ∧ app acc (dList dInt l (N - i) p) = T)) (fun _ _ v27 _ => N - (intOf v27).toNat)
    case atStart => exact ⟨0, u, [], rfl, by omega, rfl, by omega, by omega, Own.nil _ _ _ _, Bel.refl _, ⟨rfl, HT.out⟩⟩
    case round =>
      obtain ⟨i, p, acc, rfl, hi, rfl, hp0, hp1, HO, HB, H⟩ := hrel
      by_cases hlt : i < N
      · obtain ⟨A1, hsl, hC, hle⟩ := cut_from A c l p hp0 hp1 HC.out
        have HD8 := bytes8_drop HB8.out p.toNat
        have hG1 := refGetInt_calls A1 _ (l.drop p.toNat) wr (hC wr (Kd.C_below HR.out HB.out)) hle HD8
        rw [List.length_drop] at hG1
        have HG1 := Aside0.mk hG1
        clear hG1
        have hR := dInt_range HD8
        have hdl : (l.drop p.toNat).length = l.length - p.toNat := List.length_drop
        have HS : Aside0 ((dInt (l.drop p.toNat)).2.2 = 0 → app (acc ++ [(dInt (l.drop p.toNat)).1]) (dList dInt l (N - (i + 1)) (p + (dInt (l.drop p.toNat)).2.1)) = T) := ⟨fun he => get_step H.out.2 hlt he⟩
        have HE : Aside0 ((dInt (l.drop p.toNat)).2.2 ≠ 0 → (([], 0, (dInt (l.drop p.toNat)).2.2) : List Int × Int × Int) = T) := ⟨fun he => get_bad H.out.2 hlt he⟩
        rw [hdl] at hR
        have HDL := Aside0.mk hdl
        generalize dInt (l.drop p.toNat) = t at *
        obtain ⟨x, ux, ex⟩ := t
        obtain ⟨r1, r2, r3, r4, r5, r6⟩ := hR
        simp only at r1 r2 r3 r4 r5 r6
        have r7 : p + ux ≤ l.length := by omega
        clear hC hle HD8 r1 r3 r5 r6 hdl
        by_cases hex : ex = 0
        · subst hex
          go_wp2_with (first | (go_at_call 33; refine HG1.out.mono ?_; rintro e w1 ⟨rfl, rfl⟩) | (at_builtin; refine ap_one (Kd.int .i64) (w := w) ty_int HO HB (by have := HN.out; have := H.out.1; omega) rfl rfl rfl rfl rfl ?_; intro v2 w2 HO2 HB2; clear HO HB))
          go_roundw
          case rel => exact ⟨i + 1, p + ux, acc ++ [x], by go_num, by omega, rfl, by omega, r7, HO2, HB2, ⟨by rw [List.length_append, H.out.1]; rfl, HS.out trivial⟩⟩
          case measure => simp [intOf]; omega
        · have hbe : (ex != 0) = true := bne_iff_ne.2 hex
          have HX := Aside0.mk hex
          clear hex
          go_wp2_with (go_at_call 33; refine HG1.out.mono ?_; rintro e w1 ⟨rfl, rfl⟩)
          go_ret3
          exact gave3 (HE.out HX.out) (Own.nil _ _ _ _) HB
      · go_wp2
        go_ret3
        exact gave3 (get_end H.out.2 (by omega)) HO HB
  · have hbe : (er != 0) = true := bne_iff_ne.2 he
    have HF : Aside0 ((([], 0, er) : List Int × Int × Int) = getOf (n, u, er) dInt l) := ⟨by simp [getOf, he]⟩
    clear he h1 h2 h3 h4 hr hb hc hn
    go_enter Try.func37, Try.ntmps37
    go_wp2_with (go_at_call 77; refine HG.out.mono ?_; rintro e w1 ⟨rfl, rfl⟩)
    go_ret3
    exact gave3 HF.out (Own.nil _ _ _ _) (Bel.refl _)


set_option maxHeartbeats 400000 in
set_option maxRecDepth 100000 in
theorem refGetStrings_calls (A : Option Addr) (c : Nat) (l : List Int) (w : World) (hr : Kd.C (Kd.int .u8) w A l.length l) (hc : l.length ≤ c) (hb : Bytes8 l) (hn : (l.length + 1) * 16 ≤ 140737488355328) :
    Calls Try.prog 40 #[.slice A l.length c] w fun e w' => Gave Kd.string 9 w.heap.size w w' (dStrs l) e := by
  have HR := Aside0.mk hr
  have HC := Aside0.mk hc
  have HB8 := Aside0.mk hb
  have HG := Aside0.mk (reflength_calls A c l 1 w hr hc hb (by omega) (by omega) (by omega))
  have hR := dLen_range (m := 1) hb (by omega)
  have hT : dStrs l = getOf (dLen l 1) dBytes l := rfl
  rw [hT]
  clear hT
  have hlen : l.length ≤ 9223372036854775807 := by omega
  have HN := Aside0.mk hn
  generalize dLen l 1 = t at *
  obtain ⟨n, u, er⟩ := t
  obtain ⟨h1, h2, h3, h4⟩ := hR
  simp only at h1 h2 h3 h4
  by_cases he : er = 0
  · subst he
    obtain ⟨h5, h6, h7, h8⟩ := h3 rfl
    have h9 : n ≤ (l.length : Int) - u := by omega
    obtain ⟨N, rfl⟩ := Int.eq_ofNat_of_zero_le h5
    have HT : Aside0 (app [] (dList dBytes l (N - 0) u) = getOf ((N : Int), u, 0) dBytes l) := ⟨by rw [dList_app]; simp [getOf]⟩
    generalize getOf ((N : Int), u, 0) dBytes l = T at *
    clear hr hb h1 h3 h4 h8 hc hn
    go_enter Try.func40, Try.ntmps40
    go_wp2_with (go_at_call 77; refine HG.out.mono ?_; rintro e w1 ⟨rfl, rfl⟩)
    have hNl : N ≤ l.length := by omega
    go_loopw [6, 8, 9] (fun v10 v12 v27 wr => ∃ (i : Nat) (p : Int) (acc : List ByteArray), v27 = .int .i64 i ∧ i ≤ N ∧ v10 = .int .i64 p ∧ 0 ≤ p ∧ p ≤ l.length ∧ Own Kd.string 9 w.heap.size wr v12 acc ∧ Bel w.heap.size w wr ∧ Aside0 (acc.length = i ∧ app acc (dList dBytes l (N - i) p) = T)) (fun _ _ v27 _ => N - (intOf v27).toNat)
    case atStart => exact ⟨0, u, [], rfl, by omega, rfl, by omega, by omega, Own.nil _ _ _ _, Bel.refl _, ⟨rfl, HT.out⟩⟩
    case round =>
      obtain ⟨i, p, acc, rfl, hi, rfl, hp0, hp1, HO, HB, H⟩ := hrel
      by_cases hlt : i < N
      · obtain ⟨A1, hsl, hC, hle⟩ := cut_from A c l p hp0 hp1 HC.out
        have HD8 := bytes8_drop HB8.out p.toNat
        have hG1 := refGetBytes_calls A1 _ (l.drop p.toNat) wr (hC wr (Kd.C_below HR.out HB.out)) hle HD8 (by rw [List.length_drop]; omega)
        rw [List.length_drop] at hG1
        have HG1 := Aside0.mk hG1
        clear hG1
        have hR := dBytes_range HD8
        have hdl : (l.drop p.toNat).length = l.length - p.toNat := List.length_drop
        have HS : Aside0 ((dBytes (l.drop p.toNat)).2.2 = 0 → app (acc ++ [(dBytes (l.drop p.toNat)).1]) (dList dBytes l (N - (i + 1)) (p + (dBytes (l.drop p.toNat)).2.1)) = T) := ⟨fun he => get_step H.out.2 hlt he⟩
        have HE : Aside0 ((dBytes (l.drop p.toNat)).2.2 ≠ 0 → (([], 0, (dBytes (l.drop p.toNat)).2.2) : List ByteArray × Int × Int) = T) := ⟨fun he => get_bad H.out.2 hlt he⟩
        rw [hdl] at hR
        have HDL := Aside0.mk hdl
        generalize dBytes (l.drop p.toNat) = t at *
        obtain ⟨x, ux, ex⟩ := t
        obtain ⟨r2, r3⟩ := hR
        simp only at r2 r3
        have r7 : p + ux ≤ l.length := by omega
        clear hC hle HD8 r3 hdl
        by_cases hex : ex = 0
        · subst hex
          go_wp2_with (first | (go_at_call 35; refine HG1.out.mono ?_; rintro e w1 ⟨rfl, rfl⟩) | (at_builtin; refine ap_one Kd.string (w := w) ty_str HO HB (by have := HN.out; have := H.out.1; omega) rfl rfl rfl rfl rfl ?_; intro v2 w2 HO2 HB2; clear HO HB))
          go_roundw
          case rel => exact ⟨i + 1, p + ux, acc ++ [x], by go_num, by omega, rfl, by omega, r7, HO2, HB2, ⟨by rw [List.length_append, H.out.1]; rfl, HS.out trivial⟩⟩
          case measure => simp [intOf]; omega
        · have hbe : (ex != 0) = true := bne_iff_ne.2 hex
          have HX := Aside0.mk hex
          clear hex
          go_wp2_with (go_at_call 35; refine HG1.out.mono ?_; rintro e w1 ⟨rfl, rfl⟩)
          go_ret3
          exact gave3 (HE.out HX.out) (Own.nil _ _ _ _) HB
      · go_wp2
        go_ret3
        exact gave3 (get_end H.out.2 (by omega)) HO HB
  · have hbe : (er != 0) = true := bne_iff_ne.2 he
    have HF : Aside0 ((([], 0, er) : List ByteArray × Int × Int) = getOf (n, u, er) dBytes l) := ⟨by simp [getOf, he]⟩
    clear he h1 h2 h3 h4 hr hb hc hn
    go_enter Try.func40, Try.ntmps40
    go_wp2_with (go_at_call 77; refine HG.out.mono ?_; rintro e w1 ⟨rfl, rfl⟩)
    go_ret3
    exact gave3 HF.out (Own.nil _ _ _ _) (Bel.refl _)

set_option maxHeartbeats 400000 in
set_option maxRecDepth 100000 in
theorem refGetDigests_calls (A : Option Addr) (c : Nat) (l : List Int) (w : World) (hr : Kd.C (Kd.int .u8) w A l.length l) (hc : l.length ≤ c) (hb : Bytes8 l) (hn : (l.length + 1) * 16 ≤ 140737488355328) :
    Calls Try.prog 43 #[.slice A l.length c] w fun e w' => Gave dgK 77 w.heap.size w w' (dDigs l) e := by
  have HR := Aside0.mk hr
  have HC := Aside0.mk hc
  have HB8 := Aside0.mk hb
  have HG := Aside0.mk (reflength_calls A c l 16 w hr hc hb (by omega) (by omega) (by omega))
  have hR := dLen_range (m := 16) hb (by omega)
  have hT : dDigs l = getOf (dLen l 16) dDig l := rfl
  rw [hT]
  clear hT
  have hlen : l.length ≤ 9223372036854775807 := by omega
  have HN := Aside0.mk hn
  generalize dLen l 16 = t at *
  obtain ⟨n, u, er⟩ := t
  obtain ⟨h1, h2, h3, h4⟩ := hR
  simp only at h1 h2 h3 h4
  by_cases he : er = 0
  · subst he
    obtain ⟨h5, h6, h7, h8⟩ := h3 rfl
    have h9 : n * 16 ≤ (l.length : Int) - u := by omega
    obtain ⟨N, rfl⟩ := Int.eq_ofNat_of_zero_le h5
    have HT : Aside0 (app [] (dList dDig l (N - 0) u) = getOf ((N : Int), u, 0) dDig l) := ⟨by rw [dList_app]; simp [getOf]⟩
    generalize getOf ((N : Int), u, 0) dDig l = T at *
    clear hr hb h1 h3 h4 h8 hc hn
    go_enter Try.func43, Try.ntmps43
    go_wp2_with (go_at_call 77; refine HG.out.mono ?_; rintro e w1 ⟨rfl, rfl⟩)
    have hNl : N ≤ l.length := by omega
    go_loopw [6, 8, 9] (fun v10 v12 v27 wr => ∃ (i : Nat) (p : Int) (acc : List (List Int)), v27 = .int .i64 i ∧ i ≤ N ∧ v10 = .int .i64 p ∧ 0 ≤ p ∧ p + (N - i) * 16 ≤ l.length ∧ Own dgK 77 w.heap.size wr v12 acc ∧ Bel w.heap.size w wr ∧ Aside0 (acc.length = i ∧ app acc (dList dDig l (N - i) p) = T)) (fun _ _ v27 _ => N - (intOf v27).toNat)
    case atStart => exact ⟨0, u, [], rfl, by omega, rfl, by omega, by omega, Own.nil _ _ _ _, Bel.refl _, ⟨rfl, HT.out⟩⟩
    case round =>
      obtain ⟨i, p, acc, rfl, hi, rfl, hp0, hp1, HO, HB, H⟩ := hrel
      by_cases hlt : i < N
      · have hp2 : p ≤ l.length := by omega
        have HS : Aside0 (app (acc ++ [(l.drop p.toNat).take 16]) (dList dDig l (N - (i + 1)) (p + 16)) = T) := ⟨get_step H.out.2 hlt rfl⟩
        have H16 : Aside0 (((l.drop p.toNat).take 16).length = 16) := ⟨by rw [List.length_take, List.length_drop]; omega⟩
        have HX : Aside0 (∀ j : Nat, j < 16 → ((l.drop p.toNat).take 16)[j]? = some (rd l (p + j))) := ⟨fun j hj => by
          rw [List.getElem?_take, if_pos hj, List.getElem?_drop, show p.toNat + j = (p + j).toNat from by omega]
          have := rd_at l (p + j).toNat (by omega)
          rw [this]
          congr 2
          omega⟩
        generalize (l.drop p.toNat).take 16 = x at *
        have r7 : p + 16 ≤ l.length := by omega
        go_wp2
        obtain ⟨wo, rfl⟩ : ∃ wo : World, wo = wr := ⟨_, rfl⟩
        go_loopw [11] (fun v11 wi => ∃ (q : Nat) (y : List Int), v11 = .int .i64 q ∧ q ≤ 16 ∧ Aside0 (y.length = 16 ∧ y.take q = x.take q) ∧ wi = wo.alloc (.cells (dgCells y).toArray 77)) (fun v11 _ => 16 - (intOf v11).toNat)
        case atStart => exact ⟨0, [0, 0, 0, 0, 0, 0, 0, 0, 0, 0, 0, 0, 0, 0, 0, 0], rfl, by omega, ⟨rfl, rfl⟩, rfl⟩
        case round =>
          obtain ⟨q, y, rfl, hq, HY, rfl⟩ := hrel
          by_cases hq16 : q < 16
          · obtain ⟨ad, e, hx⟩ := Kd.at_int (Kd.C_alloc (Kd.C_below HR.out HB.out) (.cells (dgCells y).toArray 77)) (p + q) (by omega) (by omega)
            cases e
            have HY2 : Aside0 ((y.set q (rd l (p + q))).length = 16 ∧ (y.set q (rd l (p + q))).take (q + 1) = x.take (q + 1)) := ⟨by rw [List.length_set]; exact HY.out.1, by
              rw [List.take_add_one, List.take_add_one, HX.out q hq16, List.getElem?_set_self (by rw [HY.out.1]; exact hq16), List.take_set_of_le (Nat.le_refl _), HY.out.2]⟩
            obtain ⟨old, hold⟩ : ∃ old, (dgCells y)[q]? = some old := ⟨_, List.getElem?_eq_getElem (by rw [dgCells_length, HY.out.1]; exact hq16)⟩
            have HYS : Aside0 ((dgCells y).set q (.int .u8 (rd l (p + q))) = dgCells (y.set q (rd l (p + q)))) := ⟨by simp [dgCells, encs, List.map_set]⟩
            generalize rd l (p + q) = z at *
            go_wp2
            go_roundw
            case rel => exact ⟨q + 1, y.set q z, by go_num, by omega, HY2, by rw [HYS.out]⟩
            case measure => simp [intOf]; omega
          · obtain rfl : q = 16 := by omega
            obtain rfl : y = x := by
              have := HY.out.2
              rw [List.take_of_length_le (by rw [HY.out.1]; omega), List.take_of_length_le (by rw [H16.out]; omega)] at this
              exact this
            have HO1 := HO.alloc (.cells (dgCells y).toArray 77)
            have HB2 := HB.alloc (.cells (dgCells y).toArray 77)
            clear HO HB
            obtain ⟨ie, hie, hiz, his⟩ := info77'
            go_wp2_with (first | (refine wpList_load_arr (new_cells wo (dgCells y) 77) Try.underlying77 rfl (dg_size H16.out) rfl rfl rfl ?_) | (refine wpList_build1 (cs := dgCells y) Try.underlying24 hie hiz (by rw [his, dgCells_length, H16.out]) (by omega) (by omega) rfl rfl rfl ?_) | (at_builtin; refine ap_one dgK (w := w) ty_dig HO1 HB2 (by have := HN.out; have := H.out.1; omega) rfl rfl rfl rfl (Kd.arr_of_cells H16.out) ?_; intro v2 w2 HO2 HB3; clear HO1 HB2))
            go_roundw
            case rel => exact ⟨i + 1, p + 16, acc ++ [y], by go_num, by omega, rfl, by omega, by omega, HO2, HB3, ⟨by rw [List.length_append, H.out.1]; rfl, HS.out⟩⟩
            case measure => simp [intOf]; omega
      · go_wp2
        go_ret3
        exact gave3 (get_end H.out.2 (by omega)) HO HB
  · have hbe : (er != 0) = true := bne_iff_ne.2 he
    have HF : Aside0 ((([], 0, er) : List (List Int) × Int × Int) = getOf (n, u, er) dDig l) := ⟨by simp [getOf, he]⟩
    clear he h1 h2 h3 h4 hr hb hc hn
    go_enter Try.func43, Try.ntmps43
    go_wp2_with (go_at_call 77; refine HG.out.mono ?_; rintro e w1 ⟨rfl, rfl⟩)
    go_ret3
    exact gave3 HF.out (Own.nil _ _ _ _) (Bel.refl _)

end Go.Proofs.Ytfngbmcedkncjaa
