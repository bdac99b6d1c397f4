/- Decode (67, 68), Encode (69, 70): walked. -/
import Derived.Test.YtfngbmcedkncjaaVVal
import Derived.Test.YtfngbmcedkncjaaDec
import Derived.Test.YtfngbmcedkncjaaEnc
namespace Go.Proofs.Ytfngbmcedkncjaa
open Go.RowKit Go.Proofs.YtfngbmcedkncjaaW.PrintWords Go.Proofs.YtfngbmcedkncjaaW.PrintLast Go.Proofs.YtfngbmcedkncjaaW.PrintMore Plain
set_option linter.unusedVariables false
set_option linter.unusedSimpArgs false
/-- What the decoding of a list makes of a vector. -/
def decOf (n : Nat) (t : List Int × Int × Int) : List Int × Int :=
  if t.2.2 ≠ 0 then ([], t.2.2) else if t.2.1 ≠ (n : Int) then ([], 11) else if vOk t.1 = true then (t.1, 0) else ([], 40)
/-- Decode. -/
def vDec (b : List Int) : List Int × Int := decOf b.length (dInts b)
def GaveV (B : Nat) (w w' : World) (t : List Int × Int) (en : Ending) : Prop :=
  ∃ v, en = .returned (.tuple #[v, .int .i64 t.2]) ∧ Own (Kd.int .i64) 3 B w' v t.1 ∧ Bel B w w'
theorem gaveV {B : Nat} {w w' : World} {t : List Int × Int} {v : Value} {xs : List Int} {c : Int} (h : t = (xs, c)) (ho : Own (Kd.int .i64) 3 B w' v xs) (hb : Bel B w w') : GaveV B w w' t (.returned (.tuple #[v, .int .i64 c])) := by
  subst h
  exact ⟨v, rfl, ho, hb⟩
set_option maxHeartbeats 400000 in
set_option maxRecDepth 100000 in
theorem Decode_calls (A : Option Addr) (c : Nat) (l : List Int) (w : World) (hr : Kd.C (Kd.int .u8) w A l.length l) (hc : l.length ≤ c) (hb : Bytes8 l) (hn : (l.length + 1) * 16 ≤ 140737488355328) :
    Calls Try.prog 67 #[.slice A l.length c] w fun e w' => GaveV w.heap.size w w' (vDec l) e := by
  have H := Aside0.mk (GetInts_calls A c l w hr hc hb hn)
  have hm := hr.2.1
  have HT : Aside0 (vDec l = decOf l.length (dInts l)) := ⟨rfl⟩
  clear hr hc hb hn
  generalize vDec l = T at *
  generalize dInts l = t at *
  obtain ⟨V, n, er⟩ := t
  by_cases he : er = 0
  · subst he
    by_cases h1 : n = (l.length : Int)
    · subst h1
      generalize hv : vOk V = b at *
      have HV := Aside0.mk hv
      clear hv
      cases b with
      | true =>
        have HF : Aside0 (T = (V, 0)) := ⟨by rw [HT.out]; simp [decOf, HV.out]⟩
        go_enter Try.func67, Try.ntmps67
        go_wp2_with fail
        refine H.out.mono ?_
        rintro e w1 ⟨v, rfl, HO, HB⟩
        obtain ⟨A1, c1, rfl, hc1, hC⟩ := HO.reads
        have HC := Aside0.mk hC
        clear hC
        go_wp2_with fail
        refine (Valid_calls A1 c1 V _ HC.out).mono ?_
        rintro e w2 ⟨rfl, rfl⟩
        rw [HV.out]
        go_wp2
        go_ret2
        exact gaveV HF.out HO HB
      | false =>
        have HF : Aside0 (T = ([], 40)) := ⟨by rw [HT.out]; simp [decOf, HV.out]⟩
        go_enter Try.func67, Try.ntmps67
        go_wp2_with fail
        refine H.out.mono ?_
        rintro e w1 ⟨v, rfl, HO, HB⟩
        obtain ⟨A1, c1, rfl, hc1, hC⟩ := HO.reads
        have HC := Aside0.mk hC
        clear hC
        go_wp2_with fail
        refine (Valid_calls A1 c1 V _ HC.out).mono ?_
        rintro e w2 ⟨rfl, rfl⟩
        rw [HV.out]
        go_wp2
        go_ret2
        exact gaveV HF.out (Own.nil _ _ _ _) HB
    · have hb1 : (n != (l.length : Int)) = true := bne_iff_ne.2 h1
      have HF : Aside0 (T = ([], 11)) := ⟨by rw [HT.out]; simp [decOf, h1]⟩
      clear h1
      go_enter Try.func67, Try.ntmps67
      go_wp2_with fail
      refine H.out.mono ?_
      rintro e w1 ⟨v, rfl, HO, HB⟩
      go_wp2
      go_ret2
      exact gaveV HF.out (Own.nil _ _ _ _) HB
  · have hbe : (er != 0) = true := bne_iff_ne.2 he
    have HF : Aside0 (T = ([], er)) := ⟨by rw [HT.out]; simp [decOf, he]⟩
    clear he
    go_enter Try.func67, Try.ntmps67
    go_wp2_with fail
    refine H.out.mono ?_
    rintro e w1 ⟨v, rfl, HO, HB⟩
    go_wp2
    go_ret2
    exact gaveV HF.out (Own.nil _ _ _ _) HB
/-- A block that the call made, behind a call that keeps it. -/
theorem box_facts {w w1 : World} {cs : Array Value} {t : TypeId} (hb : Bel (w.alloc (.cells cs t)).heap.size (w.alloc (.cells cs t)) w1) {j : Nat} {u : Value} (hu : cs[j]? = some u) : w1.cell? ⟨w.heap.size, j, none⟩ = some u ∧ w1.frozen? ⟨w.heap.size, j, none⟩ = false := by
  refine ⟨pw_cell_below hb.out ?_, ?_⟩
  · rw [World.cell?_alloc_at _ _ _ _ rfl]; exact hu
  · rw [hb.out.frozen (p := ⟨w.heap.size, j, none⟩) (by simp)]
    exact World.frozen?_alloc_at _ _ _ _ rfl
theorem Own.far {α : Type} {d : Kd α} {e B : Nat} {w : World} {v : Value} {xs : List α} (h : Own d e B w v xs) {p : Addr} (hp : p.block < B) (u : Value) : Own d e B (w.setCell p u) v xs :=
  ⟨Kd.R_mono (Kd.R_step (Kd.R_bound h.out) (fun k hk _ => Below.heap_setCell w p u k (by have := hk.2.1; omega))) (fun _ _ => trivial)⟩
theorem Bel.far {B : Nat} {w w1 : World} (h : Bel B w w1) {p : Addr} (hp : B ≤ p.block) (u : Value) : Bel B w (w1.setCell p u) := ⟨h.out.setCell hp _⟩
/-- A result that is a struct. -/
def GaveR (B : Nat) (w w' : World) (t : List Int × Int) (en : Ending) : Prop :=
  ∃ v, en = .returned (.agg #[v, .int .i64 t.2]) ∧ Own (Kd.int .i64) 3 B w' v t.1 ∧ Bel B w w'
theorem gaveR {B : Nat} {w w' : World} {t : List Int × Int} {v : Value} {xs : List Int} {c : Int} (h : t = (xs, c)) (ho : Own (Kd.int .i64) 3 B w' v xs) (hb : Bel B w w') : GaveR B w w' t (.returned (.agg #[v, .int .i64 c])) := by
  subst h
  exact ⟨v, rfl, ho, hb⟩
set_option maxHeartbeats 400000 in
set_option maxRecDepth 100000 in
theorem refDecode_calls (A : Option Addr) (c : Nat) (l : List Int) (w : World) (hr : Kd.C (Kd.int .u8) w A l.length l) (hc : l.length ≤ c) (hb : Bytes8 l) (hn : (l.length + 1) * 16 ≤ 140737488355328) :
    Calls Try.prog 68 #[.slice A l.length c] w fun e w' => GaveR w.heap.size w w' (vDec l) e := by
  have H := fun o : Obj => Aside0.mk (refGetInts_calls A c l (w.alloc o) (Kd.C_alloc hr _) hc hb hn)
  have hm := hr.2.1
  have HT : Aside0 (vDec l = decOf l.length (dInts l)) := ⟨rfl⟩
  clear hr hc hb hn
  generalize vDec l = T at *
  generalize dInts l = t at *
  obtain ⟨V, n, er⟩ := t
  by_cases he : er = 0
  · subst he
    by_cases h1 : n = (l.length : Int)
    · subst h1
      generalize hv : vOk V = b at *
      have HV := Aside0.mk hv
      clear hv
      cases b with
      | true =>
        have HF : Aside0 (T = (V, 0)) := ⟨by rw [HT.out]; simp [decOf, HV.out]⟩
        go_enter Try.func68, Try.ntmps68
        go_wp2_with fail
        refine (H _).out.mono ?_
        rintro e w1 ⟨v, rfl, HO, HB⟩
        obtain ⟨A1, c1, rfl, hc1, hC⟩ := HO.reads
        have HC := Aside0.mk hC
        clear hC
        have HB0 := ((Bel.refl w).alloc _).trans HB
        obtain ⟨f1, f2⟩ := box_facts HB (j := 0) rfl
        obtain ⟨f3, f4⟩ := box_facts HB (j := 1) rfl
        clear HB
        go_wp2_with fail
        refine (refValid_calls A1 c1 V _ HC.out).mono ?_
        rintro e w2 ⟨rfl, rfl⟩
        rw [HV.out]
        go_wp2
        have HO1 := (HO.far (p := ⟨w.heap.size, 0, none⟩) (by simp) (.slice A1 V.length c1)).far (p := ⟨w.heap.size, 1, none⟩) (by simp) (.int .i64 0)
        refine bodyPost_ret (v := .agg #[.slice A1 V.length c1, .int .i64 0]) (by simp [results, Try.results68, go_sem, f1, f2, f3, f4]) rfl ?_
        exact gaveR HF.out (HO1.lower (by simp)) ((HB0.far (Nat.le_refl _) _).far (Nat.le_refl _) _)
      | false =>
        have HF : Aside0 (T = ([], 40)) := ⟨by rw [HT.out]; simp [decOf, HV.out]⟩
        go_enter Try.func68, Try.ntmps68
        go_wp2_with fail
        refine (H _).out.mono ?_
        rintro e w1 ⟨v, rfl, HO, HB⟩
        obtain ⟨A1, c1, rfl, hc1, hC⟩ := HO.reads
        have HC := Aside0.mk hC
        clear hC
        have HB0 := ((Bel.refl w).alloc _).trans HB
        obtain ⟨f1, f2⟩ := box_facts HB (j := 0) rfl
        obtain ⟨f3, f4⟩ := box_facts HB (j := 1) rfl
        clear HB
        go_wp2_with fail
        refine (refValid_calls A1 c1 V _ HC.out).mono ?_
        rintro e w2 ⟨rfl, rfl⟩
        rw [HV.out]
        go_wp2
        refine bodyPost_ret (v := .agg #[.slice none 0 0, .int .i64 40]) (by simp [results, Try.results68, go_sem, f1, f2, f3, f4]) rfl ?_
        exact gaveR HF.out (Own.nil _ _ _ _) ((HB0.far (Nat.le_refl _) _).far (Nat.le_refl _) _)
    · have hb1 : (n != (l.length : Int)) = true := bne_iff_ne.2 h1
      have HF : Aside0 (T = ([], 11)) := ⟨by rw [HT.out]; simp [decOf, h1]⟩
      clear h1
      go_enter Try.func68, Try.ntmps68
      go_wp2_with fail
      refine (H _).out.mono ?_
      rintro e w1 ⟨v, rfl, HO, HB⟩
      have HB0 := ((Bel.refl w).alloc _).trans HB
      obtain ⟨f1, f2⟩ := box_facts HB (j := 0) rfl
      obtain ⟨f3, f4⟩ := box_facts HB (j := 1) rfl
      clear HB HO
      go_wp2
      refine bodyPost_ret (v := .agg #[.slice none 0 0, .int .i64 11]) (by simp [results, Try.results68, go_sem, f1, f2, f3, f4]) rfl ?_
      exact gaveR HF.out (Own.nil _ _ _ _) ((HB0.far (Nat.le_refl _) _).far (Nat.le_refl _) _)
  · have hbe : (er != 0) = true := bne_iff_ne.2 he
    have HF : Aside0 (T = ([], er)) := ⟨by rw [HT.out]; simp [decOf, he]⟩
    clear he
    go_enter Try.func68, Try.ntmps68
    go_wp2_with fail
    refine (H _).out.mono ?_
    rintro e w1 ⟨v, rfl, HO, HB⟩
    have HB0 := ((Bel.refl w).alloc _).trans HB
    obtain ⟨f1, f2⟩ := box_facts HB (j := 0) rfl
    obtain ⟨f3, f4⟩ := box_facts HB (j := 1) rfl
    clear HB HO
    go_wp2
    refine bodyPost_ret (v := .agg #[.slice none 0 0, .int .i64 er]) (by simp [results, Try.results68, go_sem, f1, f2, f3, f4]) rfl ?_
    exact gaveR HF.out (Own.nil _ _ _ _) ((HB0.far (Nat.le_refl _) _).far (Nat.le_refl _) _)
set_option maxHeartbeats 400000 in
set_option maxRecDepth 100000 in
theorem Encode_calls (A : Option Addr) (c : Nat) (l : List Int) (w : World) (hr : Kd.C (Kd.int .i64) w A l.length l) (hc : l.length ≤ c) (hw : ∀ x ∈ l, I64 x) (hl : l.length * 10 + 10 ≤ 140737488355328) :
    Calls Try.prog 69 #[.slice A l.length c] w fun e w' => ∃ v, e = .returned v ∧ Own (Kd.int .u8) 5 w.heap.size w' v (eInts l) ∧ Bel w.heap.size w w' := by
  have H := Aside0.mk (Ints_calls A c l w hr hc hw hl)
  clear hr hc hw hl
  generalize eInts l = T at *
  go_enter Try.func69, Try.ntmps69
  go_wp2_with fail
  refine H.out.mono ?_
  rintro e w1 ⟨v, rfl, HO, HB⟩
  go_wp2
  go_ret
  exact ⟨_, rfl, HO, HB⟩
set_option maxHeartbeats 400000 in
set_option maxRecDepth 100000 in
theorem refEncode_calls (A : Option Addr) (c : Nat) (l : List Int) (w : World) (hr : Kd.C (Kd.int .i64) w A l.length l) (hc : l.length ≤ c) (hw : ∀ x ∈ l, I64 x) (hl : l.length * 10 + 10 ≤ 140737488355328) :
    Calls Try.prog 70 #[.slice A l.length c] w fun e w' => ∃ v, e = .returned v ∧ Own (Kd.int .u8) 5 w.heap.size w' v (eInts l) ∧ Bel w.heap.size w w' := by
  have H := Aside0.mk (refInts_calls A c l w hr hc hw hl)
  clear hr hc hw hl
  generalize eInts l = T at *
  go_enter Try.func70, Try.ntmps70
  go_wp2_with fail
  refine H.out.mono ?_
  rintro e w1 ⟨v, rfl, HO, HB⟩
  go_wp2
  go_ret
  exact ⟨_, rfl, HO, HB⟩
end Go.Proofs.Ytfngbmcedkncjaa
