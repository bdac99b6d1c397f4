/- wire.getDigest (80), wire.get of digests (79). -/
import Derived.Test.YtfngbmcedkncjaaGet
namespace Go.Proofs.Ytfngbmcedkncjaa
open Go.RowKit Go.Proofs.YtfngbmcedkncjaaW.PrintWords Go.Proofs.YtfngbmcedkncjaaW.PrintLast Go.Proofs.YtfngbmcedkncjaaW.PrintMore Plain
attribute [local go_sem] max2_int min2_int max_two min_two max_three min_three max_four min_four
set_option linter.unusedVariables false
set_option linter.unusedSimpArgs false

/-- Sixteen bytes that lie in a row, as cells. -/
theorem C_cells16 {w : World} {ad : Addr} {n : Nat} {l : List Int} (h : Kd.C (Kd.int .u8) w (some ad) n l) (h16 : 16 ≤ l.length) : ∀ j u, (dgCells (l.take 16))[j]? = some u → w.cell? (ad.add j) = some u := by
  intro j u hu
  have hj : j < 16 := by
    have := (List.getElem?_eq_some_iff.1 hu).1
    rw [dgCells_length, List.length_take] at this
    omega
  have hn := h.1
  obtain ⟨ad', e, hc⟩ := Kd.at_int h j (by omega) (by omega)
  cases e
  rw [Int.toNat_natCast] at hc
  rw [hc]
  simp only [dgCells, encs, List.getElem?_map, List.getElem?_take, if_pos hj] at hu
  rw [rd_at l j (by omega)] at hu
  exact hu

set_option maxHeartbeats 400000 in
set_option maxRecDepth 100000 in
theorem getDigest_calls (A : Option Addr) (c : Nat) (l : List Int) (w : World) (hr : Kd.C (Kd.int .u8) w A l.length l) (hc : l.length ≤ c) (h16 : 16 ≤ l.length) :
    Calls Try.prog 80 #[.slice A l.length c] w fun e w' => e = .returned (.tuple #[.agg (dgCells (l.take 16)).toArray, .int .i64 16, .int .i64 0]) ∧ Bel w.heap.size w w' := by
  have HR := Aside0.mk hr
  have HC := Aside0.mk hc
  have H16 := Aside0.mk h16
  obtain ⟨ad, rfl, -⟩ := Kd.at_int hr 0 (by omega) (by omega)
  have HCC := Aside0.mk (fun o => C_cells16 (Kd.C_alloc hr o) h16)
  have HL : Aside0 ((l.take 16).length = 16) := ⟨by rw [List.length_take]; omega⟩
  have hcc : 16 ≤ c := by omega
  have hat := fun (W : World) => run_arrayAt (P := Try.prog) W 77 _ 16 (some ad) 16 c Try.underlying77 (Nat.le_refl _)
  clear hr hc
  go_enter Try.func80, Try.ntmps80
  go_wp2_with (first | (refine wpList_load_arr (HCC.out _) Try.underlying77 rfl (dg_size HL.out) rfl rfl rfl ?_) | (refine wpList_store_new (by rw [dgCells_length, HL.out]; rfl) (dg_size HL.out) (dgCells_one _) rfl rfl rfl rfl ?_))
  refine bodyPost_ret (v := .tuple #[.agg (dgCells (l.take 16)).toArray, .int .i64 16, .int .i64 0]) ?_ rfl ⟨rfl, (Bel.refl w).alloc _⟩
  have hres : Try.f80.results = #[.cell 2 77, .tmp 3, .tmp 4] := by kernel_rfl
  have hld := run_loadVar_arr (P := Try.prog) _ 77 ⟨w.heap.size, 0, none⟩ _ _ (new_cells w (dgCells (l.take 16)) 77) Try.underlying77 rfl (dg_size HL.out)
  simp [results, hres, asAddr, hld]

theorem info77 : (Try.prog.info? 77).map (fun i => (i.zero, i.size, i.bytes)) = some (some (.agg (dgCells [0, 0, 0, 0, 0, 0, 0, 0, 0, 0, 0, 0, 0, 0, 0, 0]).toArray), 16, 16) := by kernel_rfl
theorem info77' : ∃ ie, Try.prog.info? 77 = some ie ∧ ie.zero = some (.agg (dgCells [0, 0, 0, 0, 0, 0, 0, 0, 0, 0, 0, 0, 0, 0, 0, 0]).toArray) ∧ ie.size = 16 := by
  obtain ⟨i0, hi, hzz⟩ := Option.map_eq_some_iff.1 info77
  simp only [Prod.mk.injEq] at hzz
  exact ⟨i0, hi, hzz.1, hzz.2.1⟩
theorem ty_dig : Ty dgK.sz 24 77 (.agg (dgCells [0, 0, 0, 0, 0, 0, 0, 0, 0, 0, 0, 0, 0, 0, 0, 0]).toArray) 16 := ⟨Try.underlying24, info77, rfl, by decide, by decide⟩
set_option maxHeartbeats 400000 in
set_option maxRecDepth 100000 in
theorem get_dig_calls (A : Option Addr) (c : Nat) (l : List Int) (w : World) (hr : Kd.C (Kd.int .u8) w A l.length l) (hc : l.length ≤ c) (hb : Bytes8 l) (hn : (l.length + 1) * 16 ≤ 140737488355328) :
    Calls Try.prog 79 #[.slice A l.length c, .int .i64 16, .func (.func 80) #[] #[]] w fun e w' => Gave dgK 77 w.heap.size w w' (dDigs l) e := by
  have HR := Aside0.mk hr
  have HC := Aside0.mk hc
  have HB8 := Aside0.mk hb
  have HG := Aside0.mk (length_calls A c l 16 w hr hc hb (by omega) (by omega) (by omega))
  have hR := dLen_range (m := 16) hb (by omega)
  have hT : dDigs l = getOf (dLen l 16) dDig l := rfl
  rw [hT]
  clear hT
  have hlen : l.length ≤ 9223372036854775807 := by omega
  have HN := Aside0.mk hn
  generalize dLen l 16 = t at *
  obtain ⟨n, u, er⟩ := t
  obtain ⟨h1, h2, h3, h4⟩ := hR
  simp only at h1 h2 h3 h4
  by_cases he : er = 0
  · subst he
    obtain ⟨h5, h6, h7, h8⟩ := h3 rfl
    have h9 : n * 16 ≤ (l.length : Int) - u := by omega
    obtain ⟨N, rfl⟩ := Int.eq_ofNat_of_zero_le h5
    have HT : Aside0 (app [] (dList dDig l (N - 0) u) = getOf ((N : Int), u, 0) dDig l) := ⟨by rw [dList_app]; simp [getOf]⟩
    generalize getOf ((N : Int), u, 0) dDig l = T at *
    clear hr hb h1 h3 h4 h8 hc hn
    go_enter Try.func79, Try.ntmps79
    go_wp2_with (go_at_call 75; refine HG.out.mono ?_; rintro e w1 ⟨rfl, rfl⟩)
    have hNl : N ≤ l.length := by omega
    go_loopw [10, 12, 27] (fun v10 v12 v27 wr => ∃ (i : Nat) (p : Int) (acc : List (List Int)), v27 = .int .i64 i ∧ i ≤ N ∧ v10 = .int .i64 p ∧ 0 ≤ p ∧ p + (N - i) * 16 ≤ l.length ∧ Own dgK 77 w.heap.size wr v12 acc ∧ Bel w.heap.size w wr ∧ Aside0 (acc.length = i ∧ app acc (dList dDig l (N - i) p) = T)) (fun _ _ v27 _ => N - (intOf v27).toNat)
    case atStart => exact ⟨0, u, [], rfl, by omega, rfl, by omega, by omega, Own.nil _ _ _ _, Bel.refl _, ⟨rfl, HT.out⟩⟩
    case round =>
      obtain ⟨i, p, acc, rfl, hi, rfl, hp0, hp1, HO, HB, H⟩ := hrel
      by_cases hlt : i < N
      · have hp2 : p ≤ l.length := by omega
        obtain ⟨A1, hsl, hC, hle⟩ := cut_from A c l p hp0 hp2 HC.out
        have hG1 := getDigest_calls A1 _ (l.drop p.toNat) wr (hC wr (Kd.C_below HR.out HB.out)) hle (by rw [List.length_drop]; omega)
        rw [List.length_drop] at hG1
        have HG1 := Aside0.mk hG1
        clear hG1
        have HS : Aside0 (app (acc ++ [(l.drop p.toNat).take 16]) (dList dDig l (N - (i + 1)) (p + 16)) = T) := ⟨get_step H.out.2 hlt rfl⟩
        have H16 : Aside0 (((l.drop p.toNat).take 16).length = 16) := ⟨by rw [List.length_take, List.length_drop]; omega⟩
        generalize (l.drop p.toNat).take 16 = x at *
        have r7 : p + 16 ≤ l.length := by omega
        clear hC hle
        go_wp2_with fail
        refine HG1.out.mono ?_
        rintro e w1 ⟨rfl, HB1⟩
        have HO1 := (HO.bel HB1).alloc (.cells (dgCells x).toArray 77)
        have HB2 := (HB.trans HB1).alloc (.cells (dgCells x).toArray 77)
        clear HO HB HB1
        obtain ⟨ie, hie, hiz, his⟩ := info77'
        go_wp2_with (first | (refine wpList_store_new (by rw [dgCells_length, H16.out]; rfl) (dg_size H16.out) (dgCells_one x) rfl rfl rfl rfl ?_) | (refine wpList_load_arr (new_cells w1 (dgCells x) 77) Try.underlying77 rfl (dg_size H16.out) rfl rfl rfl ?_) | (refine wpList_build1 (cs := dgCells x) Try.underlying24 hie hiz (by rw [his, dgCells_length, H16.out]) (by omega) (by omega) rfl rfl rfl ?_) | (at_builtin; refine ap_one dgK (w := w) ty_dig HO1 HB2 (by have := HN.out; have := H.out.1; omega) rfl rfl rfl rfl (Kd.arr_of_cells H16.out) ?_; intro v2 w2 HO2 HB3; clear HO1 HB2) | fail)
        go_roundw
        case rel => exact ⟨i + 1, p + 16, acc ++ [x], by go_num, by omega, rfl, by omega, by omega, HO2, HB3, ⟨by rw [List.length_append, H.out.1]; rfl, HS.out⟩⟩
        case measure => simp [intOf]; omega
      · go_wp2
        go_ret3
        exact gave3 (get_end H.out.2 (by omega)) HO HB
  · have hbe : (er != 0) = true := bne_iff_ne.2 he
    have HF : Aside0 ((([], 0, er) : List (List Int) × Int × Int) = getOf (n, u, er) dDig l) := ⟨by simp [getOf, he]⟩
    clear he h1 h2 h3 h4 hr hb hc hn
    go_enter Try.func79, Try.ntmps79
    go_wp2_with (go_at_call 75; refine HG.out.mono ?_; rintro e w1 ⟨rfl, rfl⟩)
    go_ret3
    exact gave3 HF.out (Own.nil _ _ _ _) (Bel.refl _)

end Go.Proofs.Ytfngbmcedkncjaa
