/- wire.get at its three types (76, 78, 79), wire.getDigest (80). -/
import Derived.Test.YtfngbmcedkncjaaGetB
import Derived.Test.YtfngbmcedkncjaaDig
namespace Go.Proofs.Ytfngbmcedkncjaa
open Go.RowKit Go.Proofs.YtfngbmcedkncjaaW.PrintWords Go.Proofs.YtfngbmcedkncjaaW.PrintLast Go.Proofs.YtfngbmcedkncjaaW.PrintMore Plain
attribute [local go_sem] max2_int min2_int max_two min_two max_three min_three max_four min_four
set_option linter.unusedVariables false
set_option linter.unusedSimpArgs false

/-- 'b[i:]' of bytes that are read. -/
theorem cut_from (A : Option Addr) (c : Nat) (l : List Int) (a : Int) (h0 : 0 ≤ a) (h1 : a ≤ l.length) (hc : l.length ≤ c) :
    ∃ A1, (∀ W : World, (Instr.slice 28 (.slice A l.length c) (some (.int .i64 a)) none none).run Try.prog W = .ok (.slice A1 (l.length - a.toNat) (c - a.toNat)) W) ∧
      (∀ w : World, Kd.C (Kd.int .u8) w A l.length l → Kd.C (Kd.int .u8) w A1 (l.drop a.toNat).length (l.drop a.toNat)) ∧ (l.drop a.toNat).length ≤ c - a.toNat := by
  obtain ⟨i0, hi, hzz⟩ := Option.map_eq_some_iff.1 info5
  simp only [Prod.mk.injEq] at hzz
  obtain ⟨A1, h1, h2, h3⟩ := print_drop_of (P := Try.prog) (Value.int .u8) (0 : Int) 28 5 .i64 Try.underlying28 hi hzz.2.1 A c l a h0 h1 hc
  exact ⟨A1, fun W => by rw [← List.length_drop]; exact h1 W, fun w hC => Kd.C_of_reads (h2 w (Kd.reads_of_C (h1 := fun _ => rfl) hC)), h3⟩
/-- The result of get out of length's. -/
def getOf {α : Type} (t : Int × Int × Int) (one : List Int → α × Int × Int) (b : List Int) : List α × Int × Int := if t.2.2 ≠ 0 then ([], 0, t.2.2) else dList one b t.1.toNat t.2.1
theorem dGet_eq {α : Type} (m : Nat) (one : List Int → α × Int × Int) (b : List Int) : dGet m one b = getOf (dLen b m) one b := rfl
/-- A list, a number, an error: what the walk comes to. -/
def Gave {α : Type} (d : Kd α) (e : TypeId) (B : Nat) (w w' : World) (t : List α × Int × Int) (en : Ending) : Prop :=
  ∃ v, en = .returned (.tuple #[v, .int .i64 t.2.1, .int .i64 t.2.2]) ∧ Own d e B w' v t.1 ∧ Bel B w w'
theorem gave3 {α : Type} {d : Kd α} {e : TypeId} {B : Nat} {w w' : World} {t : List α × Int × Int} {v : Value} {xs : List α} {b c : Int} (h : (xs, b, c) = t) (ho : Own d e B w' v xs) (hb : Bel B w w') :
    Gave d e B w w' t (.returned (.tuple #[v, .int .i64 b, .int .i64 c])) := by
  subst h
  exact ⟨v, rfl, ho, hb⟩

set_option maxHeartbeats 400000 in
set_option maxRecDepth 100000 in
theorem get_int_calls (A : Option Addr) (c : Nat) (l : List Int) (w : World) (hr : Kd.C (Kd.int .u8) w A l.length l) (hc : l.length ≤ c) (hb : Bytes8 l) (hn : (l.length + 1) * 16 ≤ 140737488355328) :
    Calls Try.prog 76 #[.slice A l.length c, .int .i64 1, .func (.func 32) #[] #[]] w fun e w' => Gave (Kd.int .i64) 3 w.heap.size w w' (dInts l) e := by
  have HR := Aside0.mk hr
  have HC := Aside0.mk hc
  have HB8 := Aside0.mk hb
  have HG := Aside0.mk (length_calls A c l 1 w hr hc hb (by omega) (by omega) (by omega))
  have hR := dLen_range (m := 1) hb (by omega)
  have hT : dInts l = getOf (dLen l 1) dInt l := rfl
  rw [hT]
  clear hT
  have hlen : l.length ≤ 9223372036854775807 := by omega
  have HN := Aside0.mk hn
  generalize dLen l 1 = t at *
  obtain ⟨n, u, er⟩ := t
  obtain ⟨h1, h2, h3, h4⟩ := hR
  simp only at h1 h2 h3 h4
  by_cases he : er = 0
  · subst he
    obtain ⟨h5, h6, h7, h8⟩ := h3 rfl
    have h9 : n ≤ (l.length : Int) - u := by omega
    obtain ⟨N, rfl⟩ := Int.eq_ofNat_of_zero_le h5
    have HT : Aside0 (app [] (dList dInt l (N - 0) u) = getOf ((N : Int), u, 0) dInt l) := ⟨by rw [dList_app]; simp [getOf]⟩
    generalize getOf ((N : Int), u, 0) dInt l = T at *
    clear hr hb h1 h3 h4 h8 hc hn
    go_enter Try.func76, Try.ntmps76
    go_wp2_with (go_at_call 75; refine HG.out.mono ?_; rintro e w1 ⟨rfl, rfl⟩)
    have hNl : N ≤ l.length := by omega
    go_loopw [10, 12, 27] (fun v10 v12 v27 wr => ∃ (i : Nat) (p : Int) (acc : List Int), v27 = .int .i64 i ∧ i ≤ N ∧ v10 = .int .i64 p ∧ 0 ≤ p ∧ p ≤ l.length ∧ Own (Kd.int .i64) 3 w.heap.size wr v12 acc ∧ Bel w.heap.size w wr ∧ Aside0 (acc.length = i ∧ app acc (dList dInt l (N - i) p) = T)) (fun _ _ v27 _ => N - (intOf v27).toNat)
    case atStart => exact ⟨0, u, [], rfl, by omega, rfl, by omega, by omega, Own.nil _ _ _ _, Bel.refl _, ⟨rfl, HT.out⟩⟩
    case round =>
      obtain ⟨i, p, acc, rfl, hi, rfl, hp0, hp1, HO, HB, H⟩ := hrel
      by_cases hlt : i < N
      · obtain ⟨A1, hsl, hC, hle⟩ := cut_from A c l p hp0 hp1 HC.out
        have HD8 := bytes8_drop HB8.out p.toNat
        have hG1 := GetInt_calls A1 _ (l.drop p.toNat) wr (hC wr (Kd.C_below HR.out HB.out)) hle HD8
        rw [List.length_drop] at hG1
        have HG1 := Aside0.mk hG1
        clear hG1
        have hR := dInt_range HD8
        have hdl : (l.drop p.toNat).length = l.length - p.toNat := List.length_drop
        have HS : Aside0 ((dInt (l.drop p.toNat)).2.2 = 0 → app (acc ++ [(dInt (l.drop p.toNat)).1]) (dList dInt l (N - (i + 1)) (p + (dInt (l.drop p.toNat)).2.1)) = T) := ⟨fun he => get_step H.out.2 hlt he⟩
        have HE : Aside0 ((dInt (l.drop p.toNat)).2.2 ≠ 0 → (([], 0, (dInt (l.drop p.toNat)).2.2) : List Int × Int × Int) = T) := ⟨fun he => get_bad H.out.2 hlt he⟩
        rw [hdl] at hR
        have HDL := Aside0.mk hdl
        generalize dInt (l.drop p.toNat) = t at *
        obtain ⟨x, ux, ex⟩ := t
        obtain ⟨r1, r2, r3, r4, r5, r6⟩ := hR
        simp only at r1 r2 r3 r4 r5 r6
        have r7 : p + ux ≤ l.length := by omega
        clear hC hle HD8 r1 r3 r5 r6 hdl
        by_cases hex : ex = 0
        · subst hex
          go_wp2_with (first | (go_at_call 32; refine HG1.out.mono ?_; rintro e w1 ⟨rfl, rfl⟩) | (at_builtin; refine ap_one (Kd.int .i64) (w := w) ty_int HO HB (by have := HN.out; have := H.out.1; omega) rfl rfl rfl rfl rfl ?_; intro v2 w2 HO2 HB2; clear HO HB))
          go_roundw
          case rel => exact ⟨i + 1, p + ux, acc ++ [x], by go_num, by omega, rfl, by omega, r7, HO2, HB2, ⟨by rw [List.length_append, H.out.1]; rfl, HS.out trivial⟩⟩
          case measure => simp [intOf]; omega
        · have hbe : (ex != 0) = true := bne_iff_ne.2 hex
          have HX := Aside0.mk hex
          clear hex
          go_wp2_with (go_at_call 32; refine HG1.out.mono ?_; rintro e w1 ⟨rfl, rfl⟩)
          go_ret3
          exact gave3 (HE.out HX.out) (Own.nil _ _ _ _) HB
      · go_wp2
        go_ret3
        exact gave3 (get_end H.out.2 (by omega)) HO HB
  · have hbe : (er != 0) = true := bne_iff_ne.2 he
    have HF : Aside0 ((([], 0, er) : List Int × Int × Int) = getOf (n, u, er) dInt l) := ⟨by simp [getOf, he]⟩
    clear he h1 h2 h3 h4 hr hb hc hn
    go_enter Try.func76, Try.ntmps76
    go_wp2_with (go_at_call 75; refine HG.out.mono ?_; rintro e w1 ⟨rfl, rfl⟩)
    go_ret3
    exact gave3 HF.out (Own.nil _ _ _ _) (Bel.refl _)

theorem dBytes_range {b : List Int} (hb : Bytes8 b) : 0 ≤ (dBytes b).2.1 ∧ (dBytes b).2.1 ≤ b.length := by
  obtain ⟨h1, h2, h3, h4⟩ := dLen_range (m := 1) hb (by omega)
  rw [dBytes_eq]
  generalize dLen b 1 = t at *
  obtain ⟨n, u, e⟩ := t
  simp only at h1 h2 h3 h4
  unfold bytesOf1
  simp only
  split
  · exact ⟨Int.le_refl _, by simp only; omega⟩
  · rename_i he
    obtain ⟨h5, h6, h7, h8⟩ := h3 (by omega)
    exact ⟨by simp only; omega, by simp only; omega⟩

set_option maxHeartbeats 400000 in
set_option maxRecDepth 100000 in
theorem get_str_calls (A : Option Addr) (c : Nat) (l : List Int) (w : World) (hr : Kd.C (Kd.int .u8) w A l.length l) (hc : l.length ≤ c) (hb : Bytes8 l) (hn : (l.length + 1) * 16 ≤ 140737488355328) :
    Calls Try.prog 78 #[.slice A l.length c, .int .i64 1, .func (.func 34) #[] #[]] w fun e w' => Gave Kd.string 9 w.heap.size w w' (dStrs l) e := by
  have HR := Aside0.mk hr
  have HC := Aside0.mk hc
  have HB8 := Aside0.mk hb
  have HG := Aside0.mk (length_calls A c l 1 w hr hc hb (by omega) (by omega) (by omega))
  have hR := dLen_range (m := 1) hb (by omega)
  have hT : dStrs l = getOf (dLen l 1) dBytes l := rfl
  rw [hT]
  clear hT
  have hlen : l.length ≤ 9223372036854775807 := by omega
  have HN := Aside0.mk hn
  generalize dLen l 1 = t at *
  obtain ⟨n, u, er⟩ := t
  obtain ⟨h1, h2, h3, h4⟩ := hR
  simp only at h1 h2 h3 h4
  by_cases he : er = 0
  · subst he
    obtain ⟨h5, h6, h7, h8⟩ := h3 rfl
    have h9 : n ≤ (l.length : Int) - u := by omega
    obtain ⟨N, rfl⟩ := Int.eq_ofNat_of_zero_le h5
    have HT : Aside0 (app [] (dList dBytes l (N - 0) u) = getOf ((N : Int), u, 0) dBytes l) := ⟨by rw [dList_app]; simp [getOf]⟩
    generalize getOf ((N : Int), u, 0) dBytes l = T at *
    clear hr hb h1 h3 h4 h8 hc hn
    go_enter Try.func78, Try.ntmps78
    go_wp2_with (go_at_call 75; refine HG.out.mono ?_; rintro e w1 ⟨rfl, rfl⟩)
    have hNl : N ≤ l.length := by omega
    go_loopw [10, 12, 27] (fun v10 v12 v27 wr => ∃ (i : Nat) (p : Int) (acc : List ByteArray), v27 = .int .i64 i ∧ i ≤ N ∧ v10 = .int .i64 p ∧ 0 ≤ p ∧ p ≤ l.length ∧ Own Kd.string 9 w.heap.size wr v12 acc ∧ Bel w.heap.size w wr ∧ Aside0 (acc.length = i ∧ app acc (dList dBytes l (N - i) p) = T)) (fun _ _ v27 _ => N - (intOf v27).toNat)
    case atStart => exact ⟨0, u, [], rfl, by omega, rfl, by omega, by omega, Own.nil _ _ _ _, Bel.refl _, ⟨rfl, HT.out⟩⟩
    case round =>
      obtain ⟨i, p, acc, rfl, hi, rfl, hp0, hp1, HO, HB, H⟩ := hrel
      by_cases hlt : i < N
      · obtain ⟨A1, hsl, hC, hle⟩ := cut_from A c l p hp0 hp1 HC.out
        have HD8 := bytes8_drop HB8.out p.toNat
        have hG1 := GetBytes_calls A1 _ (l.drop p.toNat) wr (hC wr (Kd.C_below HR.out HB.out)) hle HD8 (by rw [List.length_drop]; omega)
        rw [List.length_drop] at hG1
        have HG1 := Aside0.mk hG1
        clear hG1
        have hR := dBytes_range HD8
        have hdl : (l.drop p.toNat).length = l.length - p.toNat := List.length_drop
        have HS : Aside0 ((dBytes (l.drop p.toNat)).2.2 = 0 → app (acc ++ [(dBytes (l.drop p.toNat)).1]) (dList dBytes l (N - (i + 1)) (p + (dBytes (l.drop p.toNat)).2.1)) = T) := ⟨fun he => get_step H.out.2 hlt he⟩
        have HE : Aside0 ((dBytes (l.drop p.toNat)).2.2 ≠ 0 → (([], 0, (dBytes (l.drop p.toNat)).2.2) : List ByteArray × Int × Int) = T) := ⟨fun he => get_bad H.out.2 hlt he⟩
        rw [hdl] at hR
        have HDL := Aside0.mk hdl
        generalize dBytes (l.drop p.toNat) = t at *
        obtain ⟨x, ux, ex⟩ := t
        obtain ⟨r2, r3⟩ := hR
        simp only at r2 r3
        have r7 : p + ux ≤ l.length := by omega
        clear hC hle HD8 r3 hdl
        by_cases hex : ex = 0
        · subst hex
          go_wp2_with (first | (go_at_call 34; refine HG1.out.mono ?_; rintro e w1 ⟨rfl, rfl⟩) | (at_builtin; refine ap_one Kd.string (w := w) ty_str HO HB (by have := HN.out; have := H.out.1; omega) rfl rfl rfl rfl rfl ?_; intro v2 w2 HO2 HB2; clear HO HB))
          go_roundw
          case rel => exact ⟨i + 1, p + ux, acc ++ [x], by go_num, by omega, rfl, by omega, r7, HO2, HB2, ⟨by rw [List.length_append, H.out.1]; rfl, HS.out trivial⟩⟩
          case measure => simp [intOf]; omega
        · have hbe : (ex != 0) = true := bne_iff_ne.2 hex
          have HX := Aside0.mk hex
          clear hex
          go_wp2_with (go_at_call 34; refine HG1.out.mono ?_; rintro e w1 ⟨rfl, rfl⟩)
          go_ret3
          exact gave3 (HE.out HX.out) (Own.nil _ _ _ _) HB
      · go_wp2
        go_ret3
        exact gave3 (get_end H.out.2 (by omega)) HO HB
  · have hbe : (er != 0) = true := bne_iff_ne.2 he
    have HF : Aside0 ((([], 0, er) : List ByteArray × Int × Int) = getOf (n, u, er) dBytes l) := ⟨by simp [getOf, he]⟩
    clear he h1 h2 h3 h4 hr hb hc hn
    go_enter Try.func78, Try.ntmps78
    go_wp2_with (go_at_call 75; refine HG.out.mono ?_; rintro e w1 ⟨rfl, rfl⟩)
    go_ret3
    exact gave3 HF.out (Own.nil _ _ _ _) (Bel.refl _)
end Go.Proofs.Ytfngbmcedkncjaa
