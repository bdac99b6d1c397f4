/- SameDigests (44). -/
import Derived.Test.YtfngbmcedkncjaaEqArr
namespace Go.Proofs.Ytfngbmcedkncjaa
open Go.RowKit Go.Proofs.YtfngbmcedkncjaaW.PrintWords Go.Proofs.YtfngbmcedkncjaaW.PrintLast Go.Proofs.YtfngbmcedkncjaaW.PrintMore Plain
attribute [local go_sem] max2_int min2_int max_two min_two max_three min_three max_four min_four
set_option linter.unusedVariables false
set_option linter.unusedSimpArgs false

/-- Element k of digests that are read. -/
theorem dig_at {A : Option Addr} {w : World} {l : List (List Int)} {n : Nat} (h : Kd.C dgK w A n l) (k : Nat) (hk : k < n) :
    ∃ ad, A = some ad ∧ (l.getD k []).length = 16 ∧ ∀ j u, (dgCells (l.getD k []))[j]? = some u → w.cell? ((ad.add (k * 16)).add j) = some u := by
  obtain ⟨ad, cs, e, hcl, hK, hx⟩ := Kd.C_get h [] k (by omega) (by omega)
  obtain ⟨hK1, hK2⟩ := Kd.arr_cells hK
  rw [Int.toNat_natCast] at hx hK1 hK2
  exact ⟨ad, e, hK1, fun j u h => by rw [add_add]; exact hx j u (by rw [hK2]; exact h)⟩

set_option maxHeartbeats 400000 in
set_option maxRecDepth 100000 in
theorem SameDigests_calls (A A' : Option Addr) (c c' : Nat) (l l' : List (List Int)) (w : World) (hr : Kd.C dgK w A l.length l) (hr' : Kd.C dgK w A' l'.length l') (hn : l.length ≤ 9223372036854775807) (hn' : l'.length ≤ 9223372036854775807) :
    Calls Try.prog 44 #[.slice A l.length c, .slice A' l'.length c'] w fun e w' => e = .returned (.bool (l == l')) ∧ Drawn0 w w' := by
  have HR := Aside0.mk hr
  have HR' := Aside0.mk hr'
  clear hr hr'
  by_cases hll : l.length = l'.length
  · have hb : ((l.length : Int) != (l'.length : Int)) = false := bne_eq_false_iff_eq.2 (by omega)
    have HLL := Aside0.mk hll
    clear hll
    go_enter Try.func44, Try.ntmps44
    go_wp2
    go_loopw [5] (fun v5 wr => ∃ k : Nat, v5 = .int .i64 k ∧ k ≤ l.length ∧ Aside0 (l.take k = l'.take k) ∧ Drawn0 w wr) (fun v5 _ => l.length - (intOf v5).toNat)
    case atStart => exact ⟨0, rfl, by omega, ⟨rfl⟩, Drawn0.refl _⟩
    case round =>
      obtain ⟨k, rfl, hk, HT, ⟨m, rfl⟩⟩ := hrel
      by_cases hlt : k < l.length
      · obtain ⟨ad, e, h16, hx⟩ := dig_at HR.out k hlt
        cases e
        obtain ⟨ad', e, h16', hx'⟩ := dig_at HR'.out k (by have := HLL.out; omega)
        cases e
        have hlt' : k < l'.length := by have := HLL.out; omega
        have hq : (k : Int) < (l.length : Int) := by omega
        have hq' : (k : Int) < (l'.length : Int) := by omega
        have H1 : Aside0 (l.take (k + 1) = l.take k ++ [l.getD k []] ∧ l'.take (k + 1) = l'.take k ++ [l'.getD k []]) := ⟨by
          rw [List.take_add_one, List.take_add_one]
          simp [List.getD_eq_getElem?_getD, hlt, hlt']⟩
        have H2 : Aside0 (l = l' → l.getD k [] = l'.getD k []) := ⟨fun h => by rw [h]⟩
        have HX : Aside0 (∀ W : World, (∃ n, W = (w.drewN m).drewN n) → ∀ j u, (dgCells (l.getD k []))[j]? = some u → W.cell? ((ad.add (k * 16)).add j) = some u) := ⟨by rintro W ⟨n, rfl⟩ j u h; exact hx j u h⟩
        have HX' : Aside0 (∀ W : World, (∃ n, W = (w.drewN m).drewN n) → ∀ j u, (dgCells (l'.getD k []))[j]? = some u → W.cell? ((ad'.add (k * 16)).add j) = some u) := ⟨by rintro W ⟨n, rfl⟩ j u h; exact hx' j u h⟩
        have H16 := Aside0.mk h16
        have H16' := Aside0.mk h16'
        clear hx hx' h16 h16'
        generalize l.getD k [] = x at *
        generalize l'.getD k [] = y at *
        go_wp2
        refine wp_region_quiet_lit (by kernel_rfl) (by kernel_rfl) ?_
        repeat (first | (refine wpQuiet_load_arr HX.out Try.underlying77 rfl (dg_size H16.out) rfl rfl rfl ?_) | (refine wpQuiet_load_arr HX'.out Try.underlying77 rfl (dg_size H16'.out) rfl rfl rfl ?_) | (refine wpQuiet_neq16 H16.out H16'.out rfl rfl rfl rfl ?_) | quiet_step (fail))
        refine wpQuiet_nil ?_
        rintro _ ⟨nq, rfl⟩
        by_cases hxy : x = y
        · have hbx : (x != y) = false := bne_eq_false_iff_eq.2 hxy
          have HXY := Aside0.mk hxy
          rw [hbx]
          clear hxy hbx
          go_wp2
          go_roundw
          case rel => exact ⟨k + 1, by go_num, by omega, ⟨by rw [H1.out.1, H1.out.2, HT.out, HXY.out]⟩, (Drawn0.refl w).step (m + nq)⟩
          case measure => simp [intOf]; omega
        · have hbx : (x != y) = true := bne_iff_ne.2 hxy
          have HF : Aside0 ((l == l') = false) := ⟨beq_eq_false_iff_ne.2 (fun h => hxy (H2.out h))⟩
          rw [hbx]
          clear hxy hbx
          go_wp2
          go_ret
          exact ⟨by rw [HF.out]; rfl, (Drawn0.refl w).step (m + nq)⟩
      · have HF : Aside0 ((l == l') = true) := ⟨by
          have h := HT.out
          rw [List.take_of_length_le (by omega), List.take_of_length_le (by have := HLL.out; omega)] at h
          exact beq_iff_eq.2 h⟩
        go_wp2
        go_ret
        exact ⟨by rw [HF.out]; rfl, (Drawn0.refl _).step m⟩
  · have hb : ((l.length : Int) != (l'.length : Int)) = true := bne_iff_ne.2 (by omega)
    have HF : Aside0 ((l == l') = false) := ⟨beq_eq_false_iff_ne.2 (fun h => hll (by rw [h]))⟩
    clear hll
    go_enter Try.func44, Try.ntmps44
    go_wp2
    go_ret
    exact ⟨by rw [HF.out]; rfl, Drawn0.refl _⟩
end Go.Proofs.Ytfngbmcedkncjaa
