/- The specification's All (64), Floor (92): walked. The specification's Mean (66): walked. vector.Mean (65): walked. -/
import Derived.Test.YtfngbmcedkncjaaVSub
namespace Go.Proofs.Ytfngbmcedkncjaa
open Go.RowKit Go.Proofs.YtfngbmcedkncjaaW.PrintWords Go.Proofs.YtfngbmcedkncjaaW.PrintLast Go.Proofs.YtfngbmcedkncjaaW.PrintMore Plain
set_option linter.unusedVariables false
set_option linter.unusedSimpArgs false
/-- Rows of integers. -/
abbrev rowK : Kd (List Int) := Kd.slice 3 (Kd.int .i64)
/-- The row k. -/
def rw_ (l : List (List Int)) (k : Nat) : List Int := l.getD k []
theorem row_at {l : List (List Int)} {w : World} {A : Option Addr} (h : Kd.C rowK w A l.length l) (k : Nat) (hk : k < l.length) : ∃ ad A1 c1, A = some ad ∧ (rw_ l k).length ≤ c1 ∧ w.cell? (ad.add k) = some (.slice A1 (rw_ l k).length c1) ∧ Kd.C (Kd.int .i64) w A1 (rw_ l k).length (rw_ l k) := by
  obtain ⟨ad, cs, rfl, _, ⟨A1, c1, rfl, h1, h2⟩, h3⟩ := Kd.C_get h [] (k : Int) (by omega) (by omega)
  rw [Int.toNat_natCast] at h1 h2 h3
  have h4 := h3 0 _ rfl
  refine ⟨ad, A1, c1, rfl, h1, ?_, h2⟩
  have e : k * rowK.sz + 0 = k := by show k * 1 + 0 = k; omega
  rw [e] at h4
  exact h4
theorem row_drop (l : List (List Int)) (k : Nat) (h : k < l.length) : l.drop k = rw_ l k :: l.drop (k + 1) := by
  rw [List.drop_eq_getElem_cons h]
  simp [rw_, List.getD_eq_getElem?_getD, h]
/-- All rows behind place k are like the first. -/
def alls (l : List (List Int)) (r : List (List Int)) : Bool := r.all fun v => vAlike (rw_ l 0) v
/-- All. -/
def vAllB (l : List (List Int)) (most : Int) : Bool := alls l l && (decide (1 ≤ l.length) && decide ((l.length : Int) ≤ most))
theorem alls_step {l r : List (List Int)} {k : Nat} {T : Bool} (h : alls l (r.drop k) = T) (hk : k < r.length) : (vAlike (rw_ l 0) (rw_ r k) && alls l (r.drop (k + 1))) = T := by
  rw [row_drop r k hk] at h
  exact h
set_option maxHeartbeats 1000000 in
set_option maxRecDepth 100000 in
theorem refAll_calls (A : Option Addr) (c : Nat) (l : List (List Int)) (most : Int) (w : World) (hr : Kd.C rowK w A l.length l) :
    Calls Try.prog 64 #[.slice A l.length c, .int .i64 most] w fun e w' => e = .returned (.bool (vAllB l most)) ∧ Drawn0 w w' := by
  have HR := Aside0.mk hr
  have hm := hr.2.1
  clear hr
  have HV : Aside0 (vAllB l most = (alls l l && (decide (1 ≤ l.length) && decide ((l.length : Int) ≤ most)))) := ⟨rfl⟩
  generalize vAllB l most = V at *
  generalize hT : alls l l = T at *
  have HT0 := Aside0.mk hT
  clear hT
  go_enter Try.func64, Try.ntmps64
  go_wp2
  go_loopw [5] (fun v5 wr => ∃ k : Nat, v5 = .int .i64 k ∧ k ≤ l.length ∧ Aside0 (alls l (l.drop k) = T) ∧ Drawn0 w wr) (fun v5 _ => l.length - (intOf v5).toNat)
  case atStart => exact ⟨0, rfl, by omega, ⟨HT0.out⟩, Drawn0.refl _⟩
  case round =>
    obtain ⟨k, rfl, hk, HT, HD⟩ := hrel
    by_cases hlt : k < l.length
    · have hq : (k : Int) < (l.length : Int) := by omega
      have hq0 : 0 < l.length := by omega
      have hC := Kd.C_below HR.out HD.below
      obtain ⟨ad, A1, c1, e, h1, hx, hC1⟩ := row_at hC k hlt
      cases e
      obtain ⟨ad', A0, c0, e, h0, hx0, hC0⟩ := row_at hC 0 (by omega)
      cases e
      rw [Addr.add_zero'] at hx0
      have HS := Aside0.mk (alls_step HT.out hlt)
      have HK := fun (n : Nat) => Aside0.mk ((refAlike_calls A0 A1 c0 c1 (rw_ l 0) (rw_ l k) (wr.drewN n) (Kd.C_drewN hC0 n) (Kd.C_drewN hC1 n)).mono fun e w' h => (⟨h.1, h.2.symm⟩ : e = .returned (.bool (vAlike (rw_ l 0) (rw_ l k))) ∧ w' = wr.drewN n))
      clear hC hC1 hC0 h1 h0
      generalize rw_ l k = x at *
      generalize rw_ l 0 = y at *
      generalize vAlike y x = b at *
      cases b with
      | false =>
        have HF : Aside0 (V = false) := ⟨by rw [HV.out, ← HS.out]; rfl⟩
        go_wp2
        go_quiet ((go_at_call 50; exact Calls.quiet_of_same (HK _).out))
        go_wp2
        go_ret
        exact ⟨by rw [HF.out]; rfl, HD.step _⟩
      | true =>
        have HS2 : Aside0 (alls l (l.drop (k + 1)) = T) := ⟨by rw [← HS.out]; rfl⟩
        go_wp2
        go_quiet ((go_at_call 50; exact Calls.quiet_of_same (HK _).out))
        go_wp2
        go_roundw
        case rel => exact ⟨k + 1, by go_num, by omega, HS2, HD.step _⟩
        case measure => simp [intOf]; omega
    · have hb : Aside0 (T = true) := ⟨by
        have h := HT.out
        rw [List.drop_eq_nil_of_le (show l.length ≤ k by omega)] at h
        exact h.symm⟩
      by_cases h1 : 1 ≤ l.length
      · by_cases h2 : (l.length : Int) ≤ most
        · have HF : Aside0 (V = true) := ⟨by rw [HV.out, hb.out, decide_eq_true h1, decide_eq_true h2]; rfl⟩
          have hd : decide ((l.length : Int) ≤ most) = true := decide_eq_true h2
          go_wp2
          go_ret
          exact ⟨by rw [HF.out]; rfl, HD⟩
        · have HF : Aside0 (V = false) := ⟨by rw [HV.out, hb.out, decide_eq_true h1, decide_eq_false h2]; rfl⟩
          have hd : decide ((l.length : Int) ≤ most) = false := decide_eq_false h2
          go_wp2
          go_ret
          exact ⟨by rw [HF.out]; rfl, HD⟩
      · have HF : Aside0 (V = false) := ⟨by rw [HV.out, hb.out, decide_eq_false h1]; rfl⟩
        go_wp2
        go_ret
        exact ⟨by rw [HF.out]; rfl, HD⟩
theorem tdiv_neg {n b : Int} (hn : n < 0) (hb : 1 ≤ b) : n.tdiv b = -((-n) / b) := by
  have h : n.tdiv b = -((-n).tdiv b) := by rw [Int.neg_tdiv, Int.neg_neg]
  rw [h, Int.tdiv_eq_ediv_of_nonneg (by omega)]
theorem tmod_neg {n b : Int} (hn : n < 0) (hb : 1 ≤ b) : n.tmod b = -((-n) % b) := by
  have h : n.tmod b = -((-n).tmod b) := by rw [Int.neg_tmod, Int.neg_neg]
  rw [h, Int.tmod_eq_emod_of_nonneg (by omega)]
/-- The quotient, rounded down. -/
theorem floor_neg {n b : Int} (hn : n < 0) (hb : 1 ≤ b) : n / b = if n.tmod b < 0 then n.tdiv b - 1 else n.tdiv b := by
  rw [tdiv_neg hn hb, tmod_neg hn hb]
  have h1 := Int.mul_ediv_add_emod (-n) b
  have h2 := Int.emod_nonneg (-n) (show b ≠ 0 by omega)
  have h3 := Int.emod_lt_of_pos (-n) (show 0 < b by omega)
  generalize (-n) / b = q at *
  generalize (-n) % b = r at *
  have e : n = -(b * q) - r := by omega
  subst e
  split
  · have : -(b * q) - r = (b - r) + b * (-q - 1) := by grind
    rw [this, Int.add_mul_ediv_left _ _ (by omega), Int.ediv_eq_zero_of_lt (by omega) (by omega)]
    omega
  · have h4 : r = 0 := by omega
    have : -(b * q) - r = 0 + b * (-q) := by grind
    rw [this, Int.add_mul_ediv_left _ _ (by omega)]
    simp
theorem tdiv_bd {n b B : Int} (hn : -B ≤ n ∧ n ≤ B) (hb : 1 ≤ b) : -B ≤ n.tdiv b ∧ n.tdiv b ≤ B := by
  rcases Int.lt_or_le n 0 with h | h
  · rw [tdiv_neg h hb]
    have h1 := Int.ediv_nonneg (show 0 ≤ -n by omega) (show 0 ≤ b by omega)
    have h2 := Int.ediv_le_self b (show 0 ≤ -n by omega)
    omega
  · rw [Int.tdiv_eq_ediv_of_nonneg h]
    have h1 := Int.ediv_nonneg h (show 0 ≤ b by omega)
    have h2 := Int.ediv_le_self b h
    omega
set_option maxHeartbeats 400000 in
set_option maxRecDepth 100000 in
theorem Floor_calls (n b : Int) (w : World) (hn : -1000000000000 ≤ n ∧ n ≤ 1000000000000) (hb : 1 ≤ b ∧ b ≤ 1000000000000) : Calls Try.prog 92 #[.int .i64 n, .int .i64 b] w fun e w' => e = .returned (.int .i64 (n / b)) ∧ w = w' := by
  obtain ⟨hb1, hb2⟩ := hb
  obtain ⟨hn1, hn2⟩ := hn
  rcases Int.lt_or_le n 0 with h | h
  · have HF := Aside0.mk (floor_neg h hb1)
    obtain ⟨h1, h2⟩ := tdiv_bd ⟨hn1, hn2⟩ hb1
    by_cases hm : n.tmod b < 0
    · rw [if_pos hm] at HF
      go_enter Try.func92, Try.ntmps92
      go_wp2
      go_ret
      exact ⟨by rw [HF.out]; rfl, rfl⟩
    · rw [if_neg hm] at HF
      go_enter Try.func92, Try.ntmps92
      go_wp2
      go_ret
      exact ⟨by rw [HF.out]; rfl, rfl⟩
  · have h1 := Int.ediv_nonneg h (show 0 ≤ b by omega)
    have h2 := Int.ediv_le_self b h
    have h3 := Int.emod_nonneg n (show b ≠ 0 by omega)
    go_enter Try.func92, Try.ntmps92
    go_wp2
    go_ret
    exact ⟨rfl, rfl⟩
end Go.Proofs.Ytfngbmcedkncjaa
namespace Go.Proofs.Ytfngbmcedkncjaa
open Go.RowKit Go.Proofs.YtfngbmcedkncjaaW.PrintWords Go.Proofs.YtfngbmcedkncjaaW.PrintLast Go.Proofs.YtfngbmcedkncjaaW.PrintMore Plain
set_option linter.unusedVariables false
set_option linter.unusedSimpArgs false
theorem rd_at_ (l : List Int) (k : Nat) : rd l (k : Int) = at_ l k := rfl
theorem row_get (l : List (List Int)) (k : Nat) (h : k < l.length) : l[k]? = some (rw_ l k) := by simp [rw_, List.getD_eq_getElem?_getD, h]
theorem row_mem {l : List (List Int)} {k : Nat} (h : k < l.length) : rw_ l k ∈ l := by simp [rw_, List.getD_eq_getElem?_getD, h]
theorem col_one (i : Nat) (v : List Int) : col i [v] = at_ v i := by simp [col]
theorem col_take {l : List (List Int)} (i : Nat) {k : Nat} (h : k < l.length) : col i (l.take (k + 1)) = col i (l.take k) + at_ (rw_ l k) i := by
  rw [List.take_add_one, row_get l k h, col_append]
  simp [col]
/-- Rows of one length, of small numbers. -/
def Rows32 (d : Nat) (l : List (List Int)) : Prop := (1 ≤ l.length ∧ l.length ≤ 20) ∧ d ≤ 1000 ∧ ∀ v ∈ l, v.length = d ∧ ∀ x ∈ v, -1000 ≤ x ∧ x ≤ 1000
theorem col_bd {d i : Nat} {l : List (List Int)} (hi : i < d) (h : ∀ v ∈ l, v.length = d ∧ ∀ x ∈ v, -1000 ≤ x ∧ x ≤ 1000) : -1000 * (l.length : Int) ≤ col i l ∧ col i l ≤ 1000 * (l.length : Int) := by
  have hb : ∀ v ∈ l, -1000 ≤ at_ v i ∧ at_ v i ≤ 1000 := fun v hv => (h v hv).2 _ (at_mem (by rw [(h v hv).1]; exact hi))
  exact ⟨col_ge (fun v hv => (hb v hv).1), col_le (fun v hv => (hb v hv).2)⟩
theorem vmean_take {d i : Nat} (h : i < d) (l : List (List Int)) : (vmean d l).take (i + 1) = (vmean d l).take i ++ [col i l / (l.length : Int)] := by
  rw [List.take_add_one]
  simp [vmean, h]
set_option maxHeartbeats 1000000 in
set_option maxRecDepth 100000 in
theorem refMean_calls (A : Option Addr) (c : Nat) (l : List (List Int)) (d : Nat) (w : World) (hr : Kd.C rowK w A l.length l) (hd : Rows32 d l) :
    Calls Try.prog 66 #[.slice A l.length c] w fun e w' => ∃ v, e = .returned v ∧ Own (Kd.int .i64) 3 w.heap.size w' v (vmean d l) ∧ Bel w.heap.size w w' := by
  have HR := Aside0.mk hr
  have HD := Aside0.mk hd
  have hl1 := hd.1.1
  have hl2 := hd.1.2
  have hd1 := hd.2.1
  have hm := hr.2.1
  clear hr hd
  go_enter Try.func66, Try.ntmps66
  go_wp2
  go_loopw [3, 4] (fun v3 v4 wr => ∃ i : Nat, v4 = .int .i64 i ∧ i ≤ d ∧ Own (Kd.int .i64) 3 w.heap.size wr v3 ((vmean d l).take i) ∧ Bel w.heap.size w wr) (fun _ v4 _ => d - (intOf v4).toNat)
  case atStart => exact ⟨0, rfl, by omega, Own.nil _ _ _ _, Bel.refl _⟩
  case round =>
    obtain ⟨i, rfl, hi, HO, HB⟩ := hrel
    have hC := Aside0.mk (Kd.C_below HR.out HB.out)
    obtain ⟨ad, A0, c0, e, h0, hx0, hC0⟩ := row_at hC.out 0 (by omega)
    cases e
    rw [Addr.add_zero', (HD.out.2.2 _ (row_mem (show 0 < l.length by omega))).1] at hx0
    clear hC0 h0
    by_cases hlt : i < d
    · go_wp2
      obtain ⟨wo, rfl⟩ : ∃ wo : World, wo = wr := ⟨_, rfl⟩
      go_loop [5, 6] (fun v5 v6 => ∃ (k : Nat) (t : Int), v5 = .int .i64 t ∧ v6 = .int .i64 k ∧ k ≤ l.length ∧ -1000 * (k : Int) ≤ t ∧ t ≤ 1000 * (k : Int) ∧ Aside0 (t = col i (l.take k))) (fun _ v6 => l.length - (intOf v6).toNat)
      case atStart => exact ⟨0, 0, rfl, rfl, by omega, by omega, by omega, ⟨rfl⟩⟩
      case round =>
        obtain ⟨k, t, rfl, rfl, hk, h1, h2, HT⟩ := hrel
        by_cases hkl : k < l.length
        · obtain ⟨ad', A1, c1, e, h3, hx, hC1⟩ := row_at hC.out k hkl
          cases e
          obtain ⟨g1, g2⟩ := HD.out.2.2 _ (row_mem hkl)
          have hq : (i : Int) < ((rw_ l k).length : Int) := by omega
          obtain ⟨ad1, e, hy⟩ := Kd.at_int hC1 i (by omega) hq
          cases e
          rw [Int.toNat_natCast, rd_at_] at hy
          have HS := Aside0.mk (col_take i hkl)
          obtain ⟨h4, h5⟩ := g2 _ (at_mem (show i < (rw_ l k).length by omega))
          rw [g1] at hx
          have hq0 : 0 < l.length := by omega
          clear hC1 h3 g2 g1 hq
          generalize at_ (rw_ l k) i = y at *
          go_wp2
          go_round
          case rel => exact ⟨k + 1, _, rfl, by go_num, by omega, by omega, by omega, ⟨by rw [HS.out, ← HT.out]⟩⟩
          case measure => simp [intOf]; omega
        · obtain rfl : k = l.length := by omega
          rw [List.take_length] at HT
          have HS := Aside0.mk (vmean_take hlt l)
          rw [← HT.out] at HS
          go_wp2_with fail
          refine (Floor_calls t _ _ ⟨by omega, by omega⟩ ⟨by omega, by omega⟩).mono ?_
          rintro e w1 ⟨rfl, rfl⟩
          generalize t / (l.length : Int) = y at *
          go_wp2_with (at_builtin; refine ap_one (Kd.int .i64) (w := w) ty_int HO HB (by rw [List.length_take, vmean_length]; omega) rfl rfl rfl rfl rfl ?_; intro v1 w2 HO1 HB1; clear HO HB)
          rw [← HS.out] at HO1
          go_roundw
          case rel => exact ⟨i + 1, by go_num, by omega, HO1, HB1⟩
          case measure => simp [intOf]; omega
    · obtain rfl : i = d := by omega
      go_wp2
      go_ret
      exact ⟨_, rfl, by have h := HO; rw [List.take_of_length_le (by rw [vmean_length]; omega)] at h; exact h, HB⟩
end Go.Proofs.Ytfngbmcedkncjaa
namespace Go.Proofs.Ytfngbmcedkncjaa
open Go.RowKit Go.Proofs.YtfngbmcedkncjaaW.PrintWords Go.Proofs.YtfngbmcedkncjaaW.PrintLast Go.Proofs.YtfngbmcedkncjaaW.PrintMore Plain
set_option linter.unusedVariables false
set_option linter.unusedSimpArgs false
/-- A row in the making: f below i, g from i on. -/
def mix (d i : Nat) (f g : Nat → Int) : List Int := (List.range d).map fun j => if j < i then f j else g j
theorem mix_length (d i : Nat) (f g : Nat → Int) : (mix d i f g).length = d := by simp [mix]
theorem mix_zero (d : Nat) (f g : Nat → Int) : mix d 0 f g = (List.range d).map g := by simp [mix]
theorem mix_end (d : Nat) (f g : Nat → Int) : mix d d f g = (List.range d).map f := by
  unfold mix
  refine List.map_congr_left fun j hj => ?_
  rw [if_pos (List.mem_range.1 hj)]
theorem rd_mix {d i : Nat} (h : i < d) (f g : Nat → Int) : rd (mix d i f g) i = g i := by
  simp [rd, mix, List.getD_eq_getElem?_getD, h]
theorem set_mix {d i : Nat} (h : i < d) (f g : Nat → Int) : (mix d i f g).set i (f i) = mix d (i + 1) f g := by
  apply List.ext_getElem
  · simp [mix]
  · intro j h1 h2
    simp only [List.getElem_set, mix, List.getElem_map, List.getElem_range]
    by_cases e : i = j
    · subst e; simp
    · rw [if_neg e]
      by_cases hj : j < i
      · rw [if_pos hj, if_pos (by omega)]
      · rw [if_neg hj, if_neg (by omega)]
/-- The columns of the first k rows. -/
def cols (l : List (List Int)) (k : Nat) (j : Nat) : Int := col j (l.take k)
theorem cols_zero (d : Nat) (l : List (List Int)) : (List.range d).map (cols l 0) = List.replicate d 0 := by
  apply List.ext_getElem
  · simp
  · intro j h1 h2; simp [cols, col]
theorem run_make22 (d : Nat) (hd : d ≤ 1000) : ∀ W : World, (Instr.makeSlice 22 (.int .i64 (d : Int)) (.int .i64 (d : Int))).run Try.prog W = .ok (.slice (some ⟨W.heap.size, 0, none⟩) d d) (W.alloc (.cells (madeCells #[.int .i64 0] d) 3)) :=
  print_make_of 22 3 (.int .i64 0) 8 Try.underlying22 info3 rfl (by decide) d (by omega)
theorem own_made22 (W : World) (d : Nat) (hd : d ≤ 1000) : Own (Kd.int .i64) 3 W.heap.size (W.alloc (.cells (madeCells #[.int .i64 0] d) 3)) (.slice (some ⟨W.heap.size, 0, none⟩) d d) (List.replicate d 0) := by
  have h := own_made W W.heap.size 3 .i64 d (Nat.le_refl _) (by omega)
  exact ⟨Kd.R_of_own (xs := List.replicate d (0 : Int)) (by rw [List.length_replicate]; exact h) (fun _ _ => trivial)⟩
theorem cols_bd {d k i : Nat} {l : List (List Int)} (hk : k ≤ l.length) (hi : i < d) (h : Rows32 d l) : -20000 ≤ cols l k i ∧ cols l k i ≤ 20000 := by
  have h1 := col_bd (l := l.take k) hi (fun v hv => h.2.2 v (List.mem_of_mem_take hv))
  rw [List.length_take] at h1
  have := h.1.2
  unfold cols
  omega
set_option maxHeartbeats 1000000 in
set_option maxRecDepth 100000 in
theorem Mean_calls (A : Option Addr) (c : Nat) (l : List (List Int)) (d : Nat) (w : World) (hr : Kd.C rowK w A l.length l) (hd : Rows32 d l) (hd0 : 0 < d) :
    Calls Try.prog 65 #[.slice A l.length c] w fun e w' => ∃ v, e = .returned v ∧ Own (Kd.int .i64) 3 w.heap.size w' v (vmean d l) ∧ Bel w.heap.size w w' := by
  have HR := Aside0.mk hr
  have HD := Aside0.mk hd
  have hl1 := hd.1.1
  have hl2 := hd.1.2
  have hd1 := hd.2.1
  have hm := hr.2.1
  have hmk := run_make22 d hd1
  have HO := own_made22 w d hd1
  have HB := (Bel.refl w).alloc (.cells (madeCells #[.int .i64 0] d) 3)
  obtain ⟨ad, A0, c0, e, h0, hx0, hC0⟩ := row_at hr 0 (by omega)
  cases e
  rw [Addr.add_zero', (hd.2.2 _ (row_mem (show 0 < l.length by omega))).1] at hx0
  have hl0 : 0 < l.length := by omega
  have hg : w.heap.size ≤ w.heap.size := Nat.le_refl _
  rw [← cols_zero d l] at HO
  clear hr hd hC0 h0
  go_enter Try.func65, Try.ntmps65
  go_wp2
  go_loopw [17] (fun v17 wr => ∃ k : Nat, v17 = .int .i64 k ∧ k ≤ l.length ∧ Own (Kd.int .i64) 3 w.heap.size wr (.slice (some ⟨w.heap.size, 0, none⟩) d d) ((List.range d).map (cols l k)) ∧ Bel w.heap.size w wr) (fun v17 _ => l.length - (intOf v17).toNat)
  case atStart => exact ⟨0, rfl, by omega, HO, HB⟩
  case round =>
    clear HO HB
    obtain ⟨k, rfl, hk, HO, HB⟩ := hrel
    by_cases hkl : k < l.length
    · obtain ⟨ad', A1, c1, e, h3, hx, hC1⟩ := row_at (Kd.C_below HR.out HB.out) k hkl
      cases e
      obtain ⟨ad2, A2, c2, e, h3', hx2, hC2⟩ := row_at HR.out k hkl
      cases e
      have hx2' := pw_cell_below HB.out hx2
      rw [hx] at hx2'
      simp only [Option.some.injEq, Value.slice.injEq] at hx2'
      obtain ⟨rfl, -, rfl⟩ := hx2'
      obtain ⟨g1, g2⟩ := HD.out.2.2 _ (row_mem hkl)
      have hn : (rw_ l k).length ≤ 9223372036854775807 := by omega
      rw [g1] at hx hC2
      have HC2 := Aside0.mk hC2
      have HCT := fun i => Aside0.mk (col_take (l := l) i hkl)
      have HG1 := Aside0.mk g1
      have HG2 := Aside0.mk g2
      clear hC1 hC2 h3 h3' hx2 g1 g2 hn
      go_wp2
      obtain ⟨wo, rfl⟩ : ∃ wo : World, wo = wr := ⟨_, rfl⟩
      go_loopw [23] (fun v23 wi => ∃ i : Nat, v23 = .int .i64 i ∧ i ≤ d ∧ Own (Kd.int .i64) 3 w.heap.size wi (.slice (some ⟨w.heap.size, 0, none⟩) d d) (mix d i (cols l (k + 1)) (cols l k)) ∧ Bel w.heap.size w wi) (fun v23 _ => d - (intOf v23).toNat)
      case atStart => exact ⟨0, rfl, by omega, by rw [mix_zero]; exact HO, HB⟩
      case round =>
        clear HO HB hx
        obtain ⟨i, rfl, hi, HO, HB⟩ := hrel
        by_cases hlt : i < d
        · obtain ⟨g', cap', e, _, hgl, hcell⟩ := HO.cells (by rw [mix_length]; omega)
          simp only [Value.slice.injEq, Option.some.injEq, Addr.mk.injEq] at e
          obtain ⟨⟨rfl, -, -⟩, -, rfl⟩ := e
          obtain ⟨hc1, hc2⟩ := hcell i (by rw [mix_length]; omega)
          rw [rd_mix hlt] at hc1
          have hq : (i : Int) < (d : Int) := by omega
          obtain ⟨ad1, e, hy⟩ := Kd.at_int (Kd.C_below HC2.out HB.out) i (by omega) hq
          cases e
          rw [Int.toNat_natCast, rd_at_] at hy
          have HS := Aside0.mk ((HCT i).out)
          obtain ⟨h4, h5⟩ := HG2.out _ (at_mem (show i < (rw_ l k).length by rw [HG1.out]; exact hlt))
          obtain ⟨h6, h7⟩ := cols_bd (k := k) (by omega) hlt HD.out
          have hE : cols l k i + at_ (rw_ l k) i = cols l (k + 1) i := HS.out.symm
          have hM := set_mix hlt (cols l (k + 1)) (cols l k)
          rw [← hE] at hM
          have HM := Aside0.mk hM
          clear hcell hE hM
          generalize at_ (rw_ l k) i = y at *
          generalize cols l k i = x at *
          have HO1 := HO.put i (x + y)
          have HB1 := HB.setCell (p := ⟨w.heap.size, i, none⟩) (Nat.le_refl _) (.int .i64 (x + y))
          rw [HM.out] at HO1
          clear HO HB
          go_wp2
          go_roundw
          case rel => exact ⟨i + 1, by go_num, by omega, HO1, HB1⟩
          case measure => simp [intOf]; omega
        · obtain rfl : i = d := by omega
          rw [mix_end] at HO
          go_wp2
          go_roundw
          case rel => exact ⟨k + 1, by go_num, by omega, HO, HB⟩
          case measure => simp [intOf]; omega
    · obtain rfl : k = l.length := by omega
      have hO := HO
      rw [show (List.range d).map (cols l l.length) = mix d 0 (fun j => col j l / (l.length : Int)) (fun j => col j l) by rw [mix_zero]; unfold cols; rw [List.take_length]] at hO
      clear HO
      go_wp2
      obtain ⟨wo, rfl⟩ : ∃ wo : World, wo = wr := ⟨_, rfl⟩
      go_loopw [39] (fun v39 wi => ∃ i : Nat, v39 = .int .i64 i ∧ i ≤ d ∧ Own (Kd.int .i64) 3 w.heap.size wi (.slice (some ⟨w.heap.size, 0, none⟩) d d) (mix d i (fun j => col j l / (l.length : Int)) (fun j => col j l)) ∧ Bel w.heap.size w wi) (fun v39 _ => d - (intOf v39).toNat)
      case atStart => exact ⟨0, rfl, by omega, hO, HB⟩
      case round =>
        clear hO HB
        obtain ⟨i, rfl, hi, HO, HB⟩ := hrel
        by_cases hlt : i < d
        · obtain ⟨g', cap', e, _, hgl, hcell⟩ := HO.cells (by rw [mix_length]; omega)
          simp only [Value.slice.injEq, Option.some.injEq, Addr.mk.injEq] at e
          obtain ⟨⟨rfl, -, -⟩, -, rfl⟩ := e
          obtain ⟨hc1, hc2⟩ := hcell i (by rw [mix_length]; omega)
          rw [rd_mix hlt] at hc1
          obtain ⟨h6, h7⟩ := cols_bd (k := l.length) (Nat.le_refl _) hlt HD.out
          unfold cols at h6 h7
          rw [List.take_length] at h6 h7
          have HM := Aside0.mk (set_mix hlt (fun j => col j l / (l.length : Int)) (fun j => col j l))
          clear hcell
          have hn1 : (1 : Int) ≤ (l.length : Int) := by omega
          have hn2 : (l.length : Int) ≤ 20 := by omega
          generalize col i l = x at *
          rcases Int.lt_or_le x 0 with hx | hx
          · have HF := Aside0.mk (floor_neg hx hn1)
            obtain ⟨h1, h2⟩ := tdiv_bd ⟨h6, h7⟩ hn1
            by_cases hm : x.tmod (l.length : Int) < 0
            · rw [if_pos hm] at HF
              have HO1 := (HO.put i (x.tdiv (l.length : Int))).put i (x.tdiv (l.length : Int) - 1)
              have HB1 := (HB.setCell (p := ⟨w.heap.size, i, none⟩) (Nat.le_refl _) (.int .i64 (x.tdiv (l.length : Int)))).setCell (p := ⟨w.heap.size, i, none⟩) (Nat.le_refl _) (.int .i64 (x.tdiv (l.length : Int) - 1))
              rw [List.set_set, ← HF.out, HM.out, HF.out] at HO1
              clear HO HB
              go_wp2
              go_roundw
              case rel => exact ⟨i + 1, by go_num, by omega, HO1, HB1⟩
              case measure => simp [intOf]; omega
            · rw [if_neg hm] at HF
              have HO1 := HO.put i (x.tdiv (l.length : Int))
              have HB1 := HB.setCell (p := ⟨w.heap.size, i, none⟩) (Nat.le_refl _) (.int .i64 (x.tdiv (l.length : Int)))
              rw [← HF.out, HM.out] at HO1
              rw [HF.out] at HO1
              clear HO HB
              go_wp2
              go_roundw
              case rel => exact ⟨i + 1, by go_num, by omega, HO1, HB1⟩
              case measure => simp [intOf]; omega
          · have h1 := Int.ediv_nonneg hx (show 0 ≤ (l.length : Int) by omega)
            have h2 := Int.ediv_le_self (l.length : Int) hx
            have h3 := Int.emod_nonneg x (show (l.length : Int) ≠ 0 by omega)
            have HO1 := HO.put i (x / (l.length : Int))
            have HB1 := HB.setCell (p := ⟨w.heap.size, i, none⟩) (Nat.le_refl _) (.int .i64 (x / (l.length : Int)))
            rw [HM.out] at HO1
            clear HO HB
            go_wp2
            go_roundw
            case rel => exact ⟨i + 1, by go_num, by omega, HO1, HB1⟩
            case measure => simp [intOf]; omega
        · obtain rfl : i = d := by omega
          rw [mix_end] at HO
          go_wp2
          go_ret
          exact ⟨_, rfl, HO, HB⟩
end Go.Proofs.Ytfngbmcedkncjaa
