/- slices.Clone of bytes (93), wire.digest (74), wire.list of digests (73). -/
import Derived.Test.YtfngbmcedkncjaaList
import Derived.Test.YtfngbmcedkncjaaArr
namespace Go.Proofs.Ytfngbmcedkncjaa
open Go.RowKit Go.Proofs.YtfngbmcedkncjaaW.PrintWords Go.Proofs.YtfngbmcedkncjaaW.PrintLast Go.Proofs.YtfngbmcedkncjaaW.PrintMore Plain
attribute [local go_sem] max2_int min2_int max_two min_two max_three min_three max_four min_four
set_option linter.unusedVariables false
set_option linter.unusedSimpArgs false

theorem own_empty (w : World) (e : TypeId) (enc : Int → Value) (h1 : ∀ x : Int, (enc x).oneCell' = true) : Own (Kd.scalar enc h1) e w.heap.size (w.alloc (.cells #[] e)) (.slice (some ⟨w.heap.size, 0, none⟩) 0 0) [] :=
  ⟨Kd.R_of_own (xs := []) (World.ownsRow_lit (base := w.heap.size) (e := e) (size := 1) w #[] 0 (Nat.le_refl _) (by simp [maxLen]) rfl) (fun _ _ => trivial)⟩
set_option maxHeartbeats 400000 in
set_option maxRecDepth 100000 in
theorem clone8_calls (ad : Addr) (c : Nat) (l : List Int) (w : World) (hr : Kd.C (Kd.int .u8) w (some ad) l.length l) (hl : l.length ≤ 140737488355328) :
    Calls Try.prog 93 #[.slice (some ad) l.length c] w fun e w' => ∃ v, e = .returned v ∧ Own (Kd.int .u8) 5 w.heap.size w' v l ∧ Bel w.heap.size w w' := by
  have HR := Aside0.mk hr
  have HL := Aside0.mk hl
  clear hr hl
  have heq := fun (W : World) => Lib.run_eql_slice_nil (P := Try.prog) W 28 5 (some ad) l.length c 0 0 Try.underlying28
  simp only [Option.isNone_some] at heq
  have HO : Own (Kd.int .u8) 5 w.heap.size (w.alloc (.cells #[] 5)) (.slice (some ⟨w.heap.size, 0, none⟩) 0 0) [] := own_empty w 5 _ _
  have HB := (Bel.refl w).alloc (.cells #[] 5)
  go_enter Try.func93, Try.ntmps93
  go_wp2_with (at_builtin; refine ap_row (Value.int .u8) 0 (w := w) ty_u8 HO HB (Kd.C_alloc HR.out _) (by have := HL.out; simp only [List.length_nil]; omega) rfl rfl rfl rfl ?_; intro v1 w1 HO1 HB1; clear HO HB)
  go_ret
  exact ⟨_, rfl, HO1, HB1⟩

/-- Cells that lie one behind the other are read as a row. -/
theorem C_cells (w : World) (ad : Addr) (x : List Int) (hx : x.length ≤ 9223372036854775807) (h : ∀ j u, (dgCells x)[j]? = some u → w.cell? (ad.add j) = some u) : Kd.C (Kd.int .u8) w (some ad) x.length x := by
  refine Kd.C_of_reads (enc := Value.int .u8) (d := (0 : Int)) ⟨rfl, hx, fun hn => ⟨ad, rfl, fun j hj => h j _ ?_⟩⟩
  simp [dgCells, encs, List.getD_eq_getElem?_getD, hj]
theorem clone16_calls (ad : Addr) (c : Nat) (x : List Int) (w : World) (hx : x.length = 16) (hr : Kd.C (Kd.int .u8) w (some ad) x.length x) :
    Calls Try.prog 93 #[.slice (some ad) 16 c] w fun e w' => ∃ v, e = .returned v ∧ Own (Kd.int .u8) 5 w.heap.size w' v x ∧ Bel w.heap.size w w' := by
  have h := clone8_calls ad c x w hr (by omega)
  rw [hx] at h
  exact h

set_option maxHeartbeats 400000 in
set_option maxRecDepth 100000 in
theorem digest_calls (x : List Int) (hx : x.length = 16) (w : World) :
    Calls Try.prog 74 #[.agg (dgCells x).toArray] w fun e w' => ∃ v, e = .returned v ∧ Own (Kd.int .u8) 5 w.heap.size w' v x ∧ Bel w.heap.size w w' := by
  have HX := Aside0.mk hx
  have HC := Aside0.mk (C_cells _ _ x (by omega) (new_cells w (dgCells x) 77))
  clear hx
  go_enter Try.func74, Try.ntmps74
  go_wp2_with (go_at_call 93; refine (clone16_calls _ _ x _ HX.out HC.out).mono ?_; rintro e w1 ⟨v, rfl, HO, HB⟩)
  go_ret
  exact ⟨_, rfl, HO.lower (by simp), ((Bel.refl w).alloc _).trans HB⟩

theorem flat_step (l : List (List Int)) (k : Nat) (x : List Int) (h : l[k]? = some x) (a : List Int) : (a ++ (l.take k).flatten) ++ x = a ++ (l.take (k + 1)).flatten := by
  rw [List.take_add_one, h]
  simp
theorem flat_len (l : List (List Int)) (h : ∀ x ∈ l, x.length = 16) (k : Nat) : (l.take k).flatten.length ≤ l.length * 16 := by
  have h1 : ∀ m : List (List Int), (∀ x ∈ m, x.length = 16) → m.flatten.length = m.length * 16 := by
    intro m
    induction m with
    | nil => intro _; rfl
    | cons y m ih =>
      intro hm
      have e1 := hm y (by simp)
      have e2 := ih (fun z hz => hm z (by simp [hz]))
      simp only [List.flatten_cons, List.length_append, List.length_cons, Nat.add_mul, Nat.one_mul]
      omega
  rw [h1 _ (fun x hx => h x (List.mem_of_mem_take hx))]
  exact Nat.mul_le_mul_right _ (by rw [List.length_take]; omega)
theorem C_all {l : List (List Int)} {w : World} {A : Option Addr} {n : Nat} (h : Kd.C dgK w A n l) : ∀ x ∈ l, x.length = 16 := by
  intro x hx
  obtain ⟨k, hk, rfl⟩ := List.mem_iff_getElem.1 hx
  obtain ⟨ad, cs, _, _, hK, _⟩ := Kd.C_get h [] k (by omega) (by have := h.1; omega)
  have := (Kd.arr_cells hK).1
  simpa [hk] using this

set_option maxHeartbeats 400000 in
set_option maxRecDepth 100000 in
theorem list_dig_calls (A : Option Addr) (c : Nat) (l : List (List Int)) (w : World) (hr : Kd.C dgK w A l.length l) (hc : l.length ≤ c) (hl : l.length * 16 + 26 ≤ 140737488355328) :
    Calls Try.prog 73 #[.slice A l.length c, .func (.func 74) #[] #[]] w fun e w' => ∃ v, e = .returned v ∧ Own (Kd.int .u8) 5 w.heap.size w' v (eDigs l) ∧ Bel w.heap.size w w' := by
  have HR := Aside0.mk hr
  have HC := Aside0.mk hc
  have HN : Aside0 (I64 (l.length : Int)) := ⟨by unfold I64; omega⟩
  have HL := Aside0.mk hl
  have hlm : l.length ≤ 9223372036854775807 := by omega
  clear hr hc hl
  go_enter Try.func73, Try.ntmps73
  go_wp2_with (go_at_call 22; refine (Int_calls _ HN.out _).mono ?_; rintro e w1 ⟨v, rfl, HO, HB⟩)
  go_loopw [5, 13] (fun v5 v13 wr => ∃ (k : Nat), v13 = .int .i64 k ∧ k ≤ l.length ∧ Own (Kd.int .u8) 5 w.heap.size wr v5 (eInt (l.length : Int) ++ (l.take k).flatten) ∧ Bel w.heap.size w wr) (fun _ v13 _ => l.length - (intOf v13).toNat)
  case atStart => exact ⟨0, rfl, Nat.zero_le _, by simpa using HO, HB⟩
  case round =>
    clear HO HB
    obtain ⟨k, rfl, hk, HO, HB⟩ := hrel
    by_cases hlt : k < l.length
    · have hq : (k : Int) < (l.length : Int) := by omega
      obtain ⟨ad, cs, e, hcl, hK, hx⟩ := Kd.C_get (Kd.C_below HR.out HB.out) [] k (by omega) hq
      cases e
      obtain ⟨hK1, hK2⟩ := Kd.arr_cells hK
      rw [Int.toNat_natCast] at hx hK1 hK2
      have hX : ∀ j u, (dgCells (l.getD k []))[j]? = some u → wr.cell? ((ad.add (k * 16)).add j) = some u := fun j u h => by rw [add_add]; exact hx j u (by rw [hK2]; exact h)
      have HX := Aside0.mk hX
      have H16 := Aside0.mk hK1
      have HT := Aside0.mk (flat_step l k (l.getD k []) (by simp [List.getD_eq_getElem?_getD, hlt]) (eInt (l.length : Int)))
      have HE := Aside0.mk (eInt_length HN.out)
      have HF := Aside0.mk (flat_len l (C_all HR.out) k)
      clear hx hX hK hK2 hcl hK1 cs
      generalize l.getD k [] = x at *
      go_wp2_with (first | (refine wpList_load_arr HX.out Try.underlying77 rfl (dg_size H16.out) rfl rfl rfl ?_) | (refine wpList_store_new (by rw [dgCells_length, H16.out]; rfl) (dg_size H16.out) (dgCells_one x) rfl rfl rfl rfl ?_) | (refine wpList_load_arr (new_cells wr (dgCells x) 77) Try.underlying77 rfl (dg_size H16.out) rfl rfl rfl ?_))
      refine (digest_calls x H16.out _).mono ?_
      rintro e w1 ⟨v1, rfl, HO1, HB1⟩
      obtain ⟨A1, c1, rfl, hc1, hC1⟩ := HO1.reads
      have HC1 := Aside0.mk hC1
      have HO2 := (HO.alloc _).bel HB1
      have HB2 := (HB.alloc _).trans HB1
      clear hC1 hc1 HO HB HO1 HB1
      go_wp2_with (at_builtin; refine ap_row (Value.int .u8) 0 (w := w) ty_u8 HO2 HB2 HC1.out (by have := HE.out; have := HF.out; have := HL.out; have := H16.out; rw [List.length_append]; omega) rfl rfl rfl rfl ?_; intro v2 w2 HO3 HB3; clear HO2 HB2)
      go_roundw
      case rel => exact ⟨k + 1, by go_num, by omega, by rw [← HT.out]; exact HO3, HB3⟩
      case measure => simp [intOf]; omega
    · obtain rfl : k = l.length := by omega
      go_wp2
      go_ret
      exact ⟨_, rfl, by unfold eDigs; rw [List.take_length] at HO; exact HO, HB⟩
end Go.Proofs.Ytfngbmcedkncjaa
