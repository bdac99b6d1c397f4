/- The examples that every statement of layer 1 computes first (20). -/
import Derived.Test.YtfngbmcedkncjaaLit
namespace Go.Proofs.Ytfngbmcedkncjaa
open Go.RowKit Go.Proofs.YtfngbmcedkncjaaW.PrintWords Go.Proofs.YtfngbmcedkncjaaW.PrintLast Go.Proofs.YtfngbmcedkncjaaW.PrintMore Plain
attribute [local go_sem] max2_int min2_int max_two min_two max_three min_three max_four min_four
set_option linter.unusedVariables false
set_option linter.unusedSimpArgs false

theorem b8 {l : List Int} (h : (l.all fun x => decide (0 ≤ x) && decide (x ≤ 255)) = true) : Bytes8 l := by
  intro x hx
  have := List.all_eq_true.1 h x hx
  simp at this
  exact this
theorem eInt_small (n : Int) (h : zig n < 128) : eInt n = [(zig n : Int)] := encZ_end h
theorem sane1 : eInts [1, -1] = [4, 2, 1] := by
  simp [eInts, eInt_small _ (show zig 2 < 128 by decide), eInt_small _ (show zig 1 < 128 by decide), eInt_small _ (show zig (-1) < 128 by decide)]
  decide
theorem sane2 : eInt (-65) = [129, 1] := by
  unfold eInt
  rw [show zig (-65) = 129 from rfl, encZ_step (by decide), encZ_end (by decide)]
  rfl
theorem bytesOf_lit (l : List UInt8) : bytesOf ⟨l.toArray⟩ = l.map fun b => (b.toNat : Int) := rfl
theorem eBytes_lit (l : List UInt8) (h : l.length < 64) : eBytes ⟨l.toArray⟩ = (2 * l.length : Int) :: l.map fun b => (b.toNat : Int) := by
  unfold eBytes
  have e : ((⟨l.toArray⟩ : ByteArray).size : Int) = (l.length : Int) := rfl
  have hz : zig (l.length : Int) = 2 * l.length := by unfold zig; rw [if_pos (by omega)]; omega
  rw [e, eInt_small _ (by rw [hz]; omega), hz, bytesOf_lit]
  simp
theorem sane3 : eStrs [⟨#[]⟩, ⟨#[97]⟩] = [4, 0, 2, 97] := by
  simp [eStrs, eInt_small _ (show zig 2 < 128 by decide), eBytes_lit [] (by decide), eBytes_lit [97] (by decide)]
  decide
theorem sane3' : (([⟨#[]⟩, ⟨#[97]⟩] : List ByteArray).flatMap eBytes).length ≤ 1000 := by
  simp [eBytes_lit [] (by decide), eBytes_lit [97] (by decide)]
theorem sane4 : eBytes ⟨#[97, 98]⟩ = [4, 97, 98] := by
  rw [eBytes_lit [97, 98] (by decide)]
  rfl
theorem sane5 : dInts [4, 2, 1] = ([1, -1], 3, 0) := by rfl
theorem sane6 : dStrs [4, 0, 2, 97, 5] = ([⟨#[]⟩, ⟨#[97]⟩], 4, 0) := by rfl
theorem sane7 : dBytes [4, 97, 98, 7] = (⟨#[97, 98]⟩, 3, 0) := by rfl
def sd : List Int := [1, 2, 0, 0, 0, 0, 0, 0, 0, 0, 0, 0, 0, 0, 0, 0]
theorem sane8 : eDigs [sd] = 2 :: sd := by
  simp [eDigs, eInt_small _ (show zig 1 < 128 by decide)]
  decide
theorem sane9 : dDigs (2 :: sd) = ([sd], 17, 0) := by rfl

set_option maxHeartbeats 1000000 in
set_option maxRecDepth 100000 in
theorem sanity_calls (w : World) : Calls Try.prog 20 #[] w fun e w' => e = .returned (.bool true) ∧ Bel w.heap.size w w' := by
  obtain ⟨ie, hie, hiz, his⟩ := info77'
  go_enter Try.func20, Try.ntmps20
  go_wp2_with fail
  refine (GetInt_lit [128, 1, 9] (64, 2, 0) (b8 rfl) (by decide) rfl _).mono ?_
  rintro e w1 ⟨rfl, HB⟩
  go_wp2_with fail
  refine (GetInt_lit [128] (0, 0, 10) (b8 rfl) (by decide) rfl _).mono ?_
  rintro e w2 ⟨rfl, hb⟩
  replace HB := HB.trans hb
  clear hb
  go_wp2_with fail
  refine (GetInt_lit [128, 0] (0, 0, 11) (b8 rfl) (by decide) rfl _).mono ?_
  rintro e w3 ⟨rfl, hb⟩
  replace HB := HB.trans hb
  clear hb
  go_wp2_with fail
  refine (GetBytes_lit [4, 97, 98, 7] (⟨#[97, 98]⟩, 3, 0) (b8 rfl) (by decide) sane7 _).mono ?_
  rintro e w4 ⟨rfl, hb⟩
  replace HB := HB.trans hb
  clear hb
  go_wp2_with fail
  refine (GetInts_lit [4, 2, 1] ([1, -1], 3, 0) (b8 rfl) (by decide) sane5 _).mono ?_
  rintro e w5 ⟨v13, rfl, HO13, hb⟩
  replace HB := HB.trans hb
  clear hb
  go_wp2_with (first | (refine wpList_build1 (cs := dgCells sd) Try.underlying24 hie hiz (by rw [his]; rfl) (by omega) (by omega) rfl rfl rfl ?_) | fail)
  refine (Digests_lit sd rfl _ (by simp)).mono ?_
  rintro e w6 ⟨v, rfl, HO, hb⟩
  have HD := Aside0.mk (fun j u h => pw_cell_below hb.out (new_cells w5 (dgCells sd) 77 j u h))
  replace HB := (HB.alloc _).trans hb
  replace HO13 := (HO13.alloc _).bel hb
  clear hb
  rw [sane8] at HO
  obtain ⟨A, c, rfl, hc, hC⟩ := HO.reads
  clear HO
  go_wp2_with fail
  refine (GetDigests_calls A c (2 :: sd) _ hC hc (b8 rfl) (by decide)).mono ?_
  rintro e w7 ⟨v17, rfl, HO17, hb⟩
  rw [sane9] at HO17 ⊢
  replace HD := Aside0.mk (fun j u h => pw_cell_below hb.out (HD.out j u h))
  replace HB := HB.trans hb
  replace HO13 := HO13.bel hb
  clear hb hC hc
  go_wp2_with fail
  refine (GetStrings_lit [4, 0, 2, 97, 5] ([⟨#[]⟩, ⟨#[97]⟩], 4, 0) (b8 rfl) (by decide) sane6 _).mono ?_
  rintro e w8 ⟨v20, rfl, HO20, hb⟩
  replace HD := Aside0.mk (fun j u h => pw_cell_below hb.out (HD.out j u h))
  replace HB := HB.trans hb
  replace HO13 := HO13.bel hb
  replace HO17 := HO17.bel hb
  clear hb
  obtain ⟨A20, c20, rfl, -, hC⟩ := HO20.reads
  go_wp2_with fail
  refine (SameTexts_lit [⟨#[]⟩, ⟨#[97]⟩] (by decide) hC).mono ?_
  rintro e w1 ⟨rfl, hb⟩
  clear hC HO20
  replace HD := Aside0.mk (fun j u h => pw_cell_below hb.out (HD.out j u h))
  replace HB := HB.trans hb
  replace HO13 := HO13.bel hb
  replace HO17 := HO17.bel hb
  clear hb
  go_wp2_with fail
  refine (Strings_lit [⟨#[]⟩, ⟨#[97]⟩] [4, 0, 2, 97] (by decide) sane3' sane3 _).mono ?_
  rintro e w1 ⟨v, rfl, HO, hb⟩
  replace HD := Aside0.mk (fun j u h => pw_cell_below hb.out (HD.out j u h))
  replace HB := HB.trans hb
  replace HO13 := HO13.bel hb
  replace HO17 := HO17.bel hb
  clear hb
  obtain ⟨A, c, rfl, -, hC⟩ := HO.reads
  clear HO
  go_wp2_with fail
  refine (Same_lit [4, 0, 2, 97] (b8 rfl) (by decide) hC).mono ?_
  rintro e w2 ⟨rfl, hb⟩
  clear hC
  replace HD := Aside0.mk (fun j u h => pw_cell_below hb.out (HD.out j u h))
  replace HB := HB.trans hb
  replace HO13 := HO13.bel hb
  replace HO17 := HO17.bel hb
  clear hb
  go_wp2_with fail
  refine (Int_calls (-65) (by unfold I64; omega) _).mono ?_
  rintro e w1 ⟨v, rfl, HO, hb⟩
  rw [sane2] at HO
  replace HD := Aside0.mk (fun j u h => pw_cell_below hb.out (HD.out j u h))
  replace HB := HB.trans hb
  replace HO13 := HO13.bel hb
  replace HO17 := HO17.bel hb
  clear hb
  obtain ⟨A, c, rfl, -, hC⟩ := HO.reads
  clear HO
  go_wp2_with fail
  refine (Same_lit [129, 1] (b8 rfl) (by decide) hC).mono ?_
  rintro e w2 ⟨rfl, hb⟩
  clear hC
  replace HD := Aside0.mk (fun j u h => pw_cell_below hb.out (HD.out j u h))
  replace HB := HB.trans hb
  replace HO13 := HO13.bel hb
  replace HO17 := HO17.bel hb
  clear hb
  obtain ⟨A, c, rfl, -, hC⟩ := HO13.reads
  clear HO13
  go_wp2_with fail
  refine (SameInts_lit [1, -1] (by decide) hC).mono ?_
  rintro e w1 ⟨rfl, hb⟩
  clear hC
  replace HD := Aside0.mk (fun j u h => pw_cell_below hb.out (HD.out j u h))
  replace HB := HB.trans hb
  replace HO17 := HO17.bel hb
  clear hb
  go_wp2_with fail
  refine (Bytes_calls ⟨#[97, 98]⟩ (by decide) _).mono ?_
  rintro e w1 ⟨v, rfl, HO, hb⟩
  rw [sane4] at HO
  replace HD := Aside0.mk (fun j u h => pw_cell_below hb.out (HD.out j u h))
  replace HB := HB.trans hb
  replace HO17 := HO17.bel hb
  clear hb
  obtain ⟨A, c, rfl, -, hC⟩ := HO.reads
  clear HO
  go_wp2_with fail
  refine (Same_lit [4, 97, 98] (b8 rfl) (by decide) hC).mono ?_
  rintro e w2 ⟨rfl, hb⟩
  clear hC
  replace HD := Aside0.mk (fun j u h => pw_cell_below hb.out (HD.out j u h))
  replace HB := HB.trans hb
  replace HO17 := HO17.bel hb
  clear hb
  go_wp2_with fail
  refine (Ints_lit [1, -1] [4, 2, 1] (by intro x hx; unfold I64; simp at hx; omega) (by decide) sane1 _).mono ?_
  rintro e w1 ⟨v, rfl, HO, hb⟩
  replace HD := Aside0.mk (fun j u h => pw_cell_below hb.out (HD.out j u h))
  replace HB := HB.trans hb
  replace HO17 := HO17.bel hb
  clear hb
  obtain ⟨A, c, rfl, -, hC⟩ := HO.reads
  clear HO
  go_wp2_with fail
  refine (Same_lit [4, 2, 1] (b8 rfl) (by decide) hC).mono ?_
  rintro e w2 ⟨rfl, hb⟩
  clear hC
  replace HD := Aside0.mk (fun j u h => pw_cell_below hb.out (HD.out j u h))
  replace HB := HB.trans hb
  replace HO17 := HO17.bel hb
  clear hb
  obtain ⟨A, c, rfl, -, hC⟩ := HO17.reads
  clear HO17
  go_wp2_with (first | (refine wpList_load_arr_g HD.out Try.underlying77 rfl (dg_size rfl) rfl rfl rfl ?_) | (refine wpList_build1_g (cs := dgCells sd) Try.underlying24 hie hiz (by rw [his]; rfl) (by omega) (by omega) rfl rfl rfl ?_) | fail)
  refine (SameDigests_lit sd rfl hC rfl).mono ?_
  rintro e w1 ⟨rfl, hb⟩
  replace HB := HB.trans hb
  clear hb hC HD
  go_wp2
  go_ret
  exact ⟨rfl, HB⟩
end Go.Proofs.Ytfngbmcedkncjaa
