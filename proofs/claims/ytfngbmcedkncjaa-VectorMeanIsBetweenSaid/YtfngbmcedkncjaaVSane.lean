/- The examples that every statement of layer 4 computes first (46). -/
import Derived.Test.YtfngbmcedkncjaaVMns
import Derived.Test.YtfngbmcedkncjaaVCod
import Derived.Test.YtfngbmcedkncjaaVCmp
namespace Go.Proofs.Ytfngbmcedkncjaa
open Go.RowKit Go.Proofs.YtfngbmcedkncjaaW.PrintWords Go.Proofs.YtfngbmcedkncjaaW.PrintLast Go.Proofs.YtfngbmcedkncjaaW.PrintMore Plain
set_option linter.unusedVariables false
set_option linter.unusedSimpArgs false
/-- Rows laid out as a literal. -/
theorem C_rows (hs : List Value) (xs : List (List Int)) (t : TypeId) (W : World) (hn : xs.length ≤ 1000) (h : ∀ (j : Nat) (x : List Int), xs[j]? = some x → ∃ A c, hs[j]? = some (Value.slice A x.length c) ∧ x.length ≤ c ∧ Kd.C (Kd.int .i64) W A x.length x) :
    Kd.C rowK (W.alloc (.cells hs.toArray t)) (some ⟨W.heap.size, 0, none⟩) xs.length xs := by
  refine ⟨rfl, by omega, fun hp => ⟨_, rfl, fun j x hj => ?_⟩⟩
  obtain ⟨A, c, h1, h2, h3⟩ := h j x hj
  refine ⟨[.slice A x.length c], rfl, ⟨A, c, rfl, h2, Kd.C_alloc h3 _⟩, fun i u hu => ?_⟩
  cases i with
  | zero =>
    have e : u = .slice A x.length c := by simpa using hu.symm
    subst e
    refine new_cells W hs t _ _ ?_
    have e2 : j * rowK.sz + 0 = j := by show j * 1 + 0 = j; omega
    rw [e2]
    exact h1
  | succ i => simp at hu
theorem C_rows2 {W : World} {A A' : Option Addr} {c c' : Nat} {x y : List Int} (t : TypeId) (hc : x.length ≤ c) (hc' : y.length ≤ c') (h : Kd.C (Kd.int .i64) W A x.length x) (h' : Kd.C (Kd.int .i64) W A' y.length y) :
    Kd.C rowK (W.alloc (.cells #[.slice A x.length c, .slice A' y.length c'] t)) (some ⟨W.heap.size, 0, none⟩) [x, y].length [x, y] := by
  refine C_rows [.slice A x.length c, .slice A' y.length c'] [x, y] t W (by simp) fun j z hj => ?_
  match j with
  | 0 => simp at hj; subst hj; exact ⟨A, c, rfl, hc, h⟩
  | 1 => simp at hj; subst hj; exact ⟨A', c', rfl, hc', h'⟩
  | j + 2 => simp at hj
abbrev la : List Int := [1, -2, 3]
abbrev lb : List Int := [4, 2, 3]
theorem small_la : Small la := by unfold Small; simp
theorem small_lb : Small lb := by unfold Small; simp
theorem bb8 {l : List Int} (h : (l.all fun x => decide (0 ≤ x) && decide (x ≤ 255)) = true) : Bytes8 l := by
  intro x hx
  have := List.all_eq_true.1 h x hx
  simp at this
  exact this
theorem v1 : vsub la lb = [-3, -4, 0] := rfl
theorem v2 : vdot la lb = 9 := rfl
theorem v3 : vkey 1 la lb = 7 := by decide
theorem v4 : vkey 2 la lb = 25 := by decide
theorem v5 : vkey 3 la lb = 4 := by decide
theorem v6 : vmean 3 [la, lb] = [2, 0, 3] := by decide
theorem v7 : vmean 1 [[-1], [0]] = [-1] := by decide
theorem v8 : vc la lb = -1 := by decide
theorem v9 : vc [9] la = -1 := by decide
theorem v10 : eInts la = [6, 2, 3, 6] := by
  simp [eInts, encZ_end (show zig 3 < 128 by decide), encZ_end (show zig 1 < 128 by decide), encZ_end (show zig (-2) < 128 by decide), eInt]
  decide
theorem v11 : eInts [] = [0] := by
  simp [eInts, encZ_end (show zig 0 < 128 by decide), eInt]
  decide
theorem v12 : vDec [6, 2, 3, 6] = (la, 0) := by rfl
theorem v13 : vDec [0] = ([], 40) := by rfl
theorem v14 : vOk la = true := by decide
theorem v15 : vOk [1001] = false := by decide
theorem v16 : vAlike la lb = true := by decide
theorem rows_ab : Rows32 3 [la, lb] := ⟨by decide, by decide, by simp⟩
theorem rows_10 : Rows32 1 [[-1], [0]] := ⟨by decide, by decide, by simp⟩
theorem lit22 (a : List Int) (W : World) (hn : a.length ≤ 1000) : Kd.C (Kd.int .i64) (W.alloc (.cells (a.map (Value.int .i64)).toArray 3)) (some ⟨W.heap.size, 0, none⟩) a.length a := C_lit (Value.int .i64) 3 a W (by omega)
theorem refSame_lit (ys : List Int) (hn : ys.length ≤ 1000) {A : Option Addr} {c : Nat} {W : World} (hr : Kd.C (Kd.int .i64) W A ys.length ys) :
    Calls Try.prog 54 #[.slice A ys.length c, .slice (some ⟨W.heap.size, 0, none⟩) ys.length ys.length] (W.alloc (.cells (ys.map (Value.int .i64)).toArray 3)) fun e w' => e = .returned (.bool true) ∧ Bel W.heap.size W w' := by
  refine (refSame_calls _ _ _ _ ys ys _ (Kd.C_alloc hr _) (lit22 ys W hn)).mono ?_
  rintro e w' ⟨rfl, h⟩
  exact ⟨by simp, ((Bel.refl W).alloc _).drawn h⟩
theorem Valid_lit (ys : List Int) (hn : ys.length ≤ 1000) (W : World) :
    Calls Try.prog 47 #[.slice (some ⟨W.heap.size, 0, none⟩) ys.length ys.length] (W.alloc (.cells (ys.map (Value.int .i64)).toArray 3)) fun e w' => e = .returned (.bool (vOk ys)) ∧ Bel W.heap.size W w' := by
  refine (Valid_calls _ _ ys _ (lit22 ys W hn)).mono ?_
  rintro e w' ⟨rfl, rfl⟩
  exact ⟨rfl, (Bel.refl W).alloc _⟩
theorem Compare_lit (ys l : List Int) (hn : ys.length ≤ 1000) {A : Option Addr} {c : Nat} {W : World} (hr : Kd.C (Kd.int .i64) W A l.length l) :
    Calls Try.prog 51 #[.slice (some ⟨W.heap.size, 0, none⟩) ys.length ys.length, .slice A l.length c] (W.alloc (.cells (ys.map (Value.int .i64)).toArray 3)) fun e w' => e = .returned (.int .i64 (vc ys l)) ∧ Bel W.heap.size W w' := by
  refine (Compare_calls _ _ _ _ ys l _ (lit22 ys W hn) (Kd.C_alloc hr _)).mono ?_
  rintro e w' ⟨rfl, h⟩
  exact ⟨rfl, ((Bel.refl W).alloc _).trans h⟩
theorem Mean_lit2 {d : Nat} {x y : List Int} {A A' : Option Addr} {c c' : Nat} {W : World} (hd0 : 0 < d) (hd : Rows32 d [x, y]) (hc : x.length ≤ c) (hc' : y.length ≤ c') (h : Kd.C (Kd.int .i64) W A x.length x) (h' : Kd.C (Kd.int .i64) W A' y.length y) :
    Calls Try.prog 65 #[.slice (some ⟨W.heap.size, 0, none⟩) [x, y].length [x, y].length] (W.alloc (.cells #[.slice A x.length c, .slice A' y.length c'] 22)) fun e w' => ∃ v, e = .returned v ∧ Own (Kd.int .i64) 3 W.heap.size w' v (vmean d [x, y]) ∧ Bel W.heap.size W w' := by
  refine (Mean_calls _ _ [x, y] d _ (C_rows2 22 hc hc' h h') hd hd0).mono ?_
  rintro e w' ⟨v, rfl, ho, hb⟩
  exact ⟨v, rfl, ho.lower (by simp), ((Bel.refl W).alloc _).trans hb⟩
theorem Mean_lit11 (W : World) : Calls Try.prog 65 #[.slice (some ⟨W.heap.size + 1 + 1, 0, none⟩) 2 2] (((W.alloc (.cells #[.int .i64 (-1)] 3)).alloc (.cells #[.int .i64 0] 3)).alloc (.cells #[.slice (some ⟨W.heap.size, 0, none⟩) 1 1, .slice (some ⟨W.heap.size + 1, 0, none⟩) 1 1] 22))
    fun e w' => ∃ v, e = .returned v ∧ Own (Kd.int .i64) 3 W.heap.size w' v [-1] ∧ Bel W.heap.size W w' := by
  have h1 := Kd.C_alloc (lit22 [-1] W (by decide)) (.cells (([0] : List Int).map (Value.int .i64)).toArray 3)
  have h2 := lit22 [0] (W.alloc (.cells (([-1] : List Int).map (Value.int .i64)).toArray 3)) (by decide)
  have h := Mean_lit2 (d := 1) (by decide) rows_10 (Nat.le_refl _) (Nat.le_refl _) h1 h2
  have e1 : (W.alloc (.cells (([-1] : List Int).map (Value.int .i64)).toArray 3)).heap.size = W.heap.size + 1 := by simp
  have e2 : ((W.alloc (.cells (([-1] : List Int).map (Value.int .i64)).toArray 3)).alloc (.cells (([0] : List Int).map (Value.int .i64)).toArray 3)).heap.size = W.heap.size + 1 + 1 := by simp
  rw [e1, e2] at h
  refine Calls.mono h ?_
  rintro e w' ⟨v, rfl, ho, hb⟩
  rw [v7] at ho
  refine ⟨v, rfl, ho.lower (by omega), ?_⟩
  have hb' : Bel ((W.alloc (.cells (([-1] : List Int).map (Value.int .i64)).toArray 3)).alloc (.cells (([0] : List Int).map (Value.int .i64)).toArray 3)).heap.size ((W.alloc (.cells (([-1] : List Int).map (Value.int .i64)).toArray 3)).alloc (.cells (([0] : List Int).map (Value.int .i64)).toArray 3)) w' := by rw [e2]; exact hb
  exact (((Bel.refl W).alloc _).alloc _).trans hb'
theorem i64_la : ∀ x ∈ la, I64 x := by unfold I64; simp
set_option maxHeartbeats 4000000 in
set_option maxRecDepth 100000 in
theorem vsanity_calls (w : World) : Calls Try.prog 46 #[] w fun e w' => e = .returned (.bool true) ∧ Bel w.heap.size w w' := by
  have HA := Aside0.mk (Kd.C_alloc (lit22 la w (by decide)) (.cells (lb.map (Value.int .i64)).toArray 3))
  have HL := Aside0.mk (lit22 lb (w.alloc (.cells (la.map (Value.int .i64)).toArray 3)) (by decide))
  have HB := ((Bel.refl w).alloc (.cells (la.map (Value.int .i64)).toArray 3)).alloc (.cells (lb.map (Value.int .i64)).toArray 3)
  rw [show (w.alloc (.cells (la.map (Value.int .i64)).toArray 3)).heap.size = w.heap.size + 1 by simp] at HL
  go_enter Try.func46, Try.ntmps46
  go_wp2_with fail
  refine (Sub_calls _ _ _ _ la lb _ HA.out HL.out rfl small_la small_lb (by decide)).mono ?_
  rintro e w1 ⟨v, rfl, HO, hb⟩
  rw [v1] at HO
  replace HA := Aside0.mk (Kd.C_below HA.out hb.out)
  replace HL := Aside0.mk (Kd.C_below HL.out hb.out)
  replace HB := HB.trans hb
  clear hb
  obtain ⟨A, c, rfl, -, hC⟩ := HO.reads
  have hS := Aside0.mk (fun c => refSame_lit [-3, -4, 0] (by decide) (c := c) hC)
  clear HO hC
  go_wp2_with fail
  refine (hS.out _).mono ?_
  rintro e w2 ⟨rfl, hb⟩
  clear hS
  replace HA := Aside0.mk (Kd.C_below HA.out hb.out)
  replace HL := Aside0.mk (Kd.C_below HL.out hb.out)
  replace HB := HB.trans hb
  clear hb
  go_wp2_with fail
  refine (Dot_calls _ _ _ _ la lb _ HA.out HL.out rfl small_la small_lb (by decide)).mono ?_
  rintro e w1 ⟨rfl, rfl⟩
  rw [v2]
  go_wp2_with fail
  refine (Key_calls (m := 1) (by decide) _ _ _ _ la lb _ HA.out HL.out v16).mono ?_
  rintro e w1 ⟨rfl, hb⟩
  rw [v3]
  replace HA := Aside0.mk (Kd.C_below HA.out hb.out)
  replace HL := Aside0.mk (Kd.C_below HL.out hb.out)
  replace HB := HB.trans hb
  clear hb
  go_wp2_with fail
  refine (Key_calls (m := 2) (by decide) _ _ _ _ la lb _ HA.out HL.out v16).mono ?_
  rintro e w1 ⟨rfl, hb⟩
  rw [v4]
  replace HA := Aside0.mk (Kd.C_below HA.out hb.out)
  replace HL := Aside0.mk (Kd.C_below HL.out hb.out)
  replace HB := HB.trans hb
  clear hb
  go_wp2_with fail
  refine (Key_calls (m := 3) (by decide) _ _ _ _ la lb _ HA.out HL.out v16).mono ?_
  rintro e w1 ⟨rfl, hb⟩
  rw [v5]
  replace HA := Aside0.mk (Kd.C_below HA.out hb.out)
  replace HL := Aside0.mk (Kd.C_below HL.out hb.out)
  replace HB := HB.trans hb
  clear hb
  go_wp2_with fail
  refine (Mean_lit2 (d := 3) (by decide) rows_ab (Nat.le_refl _) (Nat.le_refl _) HA.out HL.out).mono ?_
  rintro e w1 ⟨v, rfl, HO, hb⟩
  rw [v6] at HO
  replace HA := Aside0.mk (Kd.C_below HA.out hb.out)
  replace HL := Aside0.mk (Kd.C_below HL.out hb.out)
  replace HB := HB.trans hb
  clear hb
  obtain ⟨A, c, rfl, -, hC⟩ := HO.reads
  have hS := Aside0.mk (fun c => refSame_lit [2, 0, 3] (by decide) (c := c) hC)
  clear HO hC
  go_wp2_with fail
  refine (hS.out _).mono ?_
  rintro e w2 ⟨rfl, hb⟩
  clear hS
  replace HA := Aside0.mk (Kd.C_below HA.out hb.out)
  replace HL := Aside0.mk (Kd.C_below HL.out hb.out)
  replace HB := HB.trans hb
  clear hb
  go_wp2_with fail
  refine (Mean_lit11 _).mono ?_
  rintro e w1 ⟨v, rfl, HO, hb⟩
  replace HA := Aside0.mk (Kd.C_below HA.out hb.out)
  replace HL := Aside0.mk (Kd.C_below HL.out hb.out)
  replace HB := HB.trans hb
  clear hb
  obtain ⟨A, c, rfl, -, hC⟩ := HO.reads
  have hS := Aside0.mk (fun c => refSame_lit [-1] (by decide) (c := c) hC)
  clear HO hC
  go_wp2_with fail
  refine (hS.out _).mono ?_
  rintro e w2 ⟨rfl, hb⟩
  clear hS
  replace HA := Aside0.mk (Kd.C_below HA.out hb.out)
  replace HL := Aside0.mk (Kd.C_below HL.out hb.out)
  replace HB := HB.trans hb
  clear hb
  go_wp2_with fail
  refine (Compare_calls _ _ _ _ la lb _ HA.out HL.out).mono ?_
  rintro e w1 ⟨rfl, hb⟩
  rw [v8]
  replace HA := Aside0.mk (Kd.C_below HA.out hb.out)
  replace HL := Aside0.mk (Kd.C_below HL.out hb.out)
  replace HB := HB.trans hb
  clear hb
  go_wp2_with fail
  refine (Compare_lit [9] la (by decide) HA.out).mono ?_
  rintro e w1 ⟨rfl, hb⟩
  rw [v9]
  replace HA := Aside0.mk (Kd.C_below HA.out hb.out)
  replace HL := Aside0.mk (Kd.C_below HL.out hb.out)
  replace HB := HB.trans hb
  clear hb
  go_wp2_with fail
  refine (Encode_calls _ _ la _ HA.out (Nat.le_refl _) i64_la (by decide)).mono ?_
  rintro e w1 ⟨v, rfl, HO, hb⟩
  rw [v10] at HO
  replace HA := Aside0.mk (Kd.C_below HA.out hb.out)
  replace HL := Aside0.mk (Kd.C_below HL.out hb.out)
  replace HB := HB.trans hb
  clear hb
  obtain ⟨A, c, rfl, hc, hC⟩ := HO.reads
  clear HO
  go_wp2_with fail
  refine (Decode_calls A c [6, 2, 3, 6] _ hC hc (bb8 rfl) (by decide)).mono ?_
  rintro e w1 ⟨v, rfl, HV, hb⟩
  rw [v12] at HV
  rw [v12]
  clear hC hc
  replace HA := Aside0.mk (Kd.C_below HA.out hb.out)
  replace HL := Aside0.mk (Kd.C_below HL.out hb.out)
  replace HB := HB.trans hb
  clear hb
  go_wp2_with fail
  refine (Encode_calls none 0 [] _ (Kd.C_nil _ _) (Nat.le_refl _) (by simp) (by decide)).mono ?_
  rintro e w1 ⟨v, rfl, HO, hb⟩
  rw [v11] at HO
  replace HA := Aside0.mk (Kd.C_below HA.out hb.out)
  replace HL := Aside0.mk (Kd.C_below HL.out hb.out)
  replace HB := HB.trans hb
  replace HV := HV.bel hb
  clear hb
  obtain ⟨A1, c1, rfl, hc, hC⟩ := HO.reads
  clear HO
  go_wp2_with fail
  refine (Decode_calls A1 c1 [0] _ hC hc (bb8 rfl) (by decide)).mono ?_
  rintro e w1 ⟨v1, rfl, -, hb⟩
  rw [v13]
  clear hC hc
  replace HA := Aside0.mk (Kd.C_below HA.out hb.out)
  replace HL := Aside0.mk (Kd.C_below HL.out hb.out)
  replace HB := HB.trans hb
  replace HV := HV.bel hb
  clear hb
  obtain ⟨A2, c2, rfl, -, hC⟩ := HV.reads
  clear HV
  go_wp2_with fail
  refine (refSame_calls A2 _ c2 _ la la _ hC HA.out).mono ?_
  rintro e w1 ⟨rfl, hd⟩
  have hb := hd.below
  replace HA := Aside0.mk (Kd.C_below HA.out hb)
  replace HL := Aside0.mk (Kd.C_below HL.out hb)
  replace HB := HB.drawn hd
  rw [show decide (la = la) = true by simp]
  clear hC hd hb
  go_wp2_with fail
  refine (Valid_calls _ _ la _ HA.out).mono ?_
  rintro e w1 ⟨rfl, rfl⟩
  rw [v14]
  go_wp2_with fail
  refine (Valid_lit [1001] (by decide) _).mono ?_
  rintro e w1 ⟨rfl, hb⟩
  rw [v15]
  replace HA := Aside0.mk (Kd.C_below HA.out hb.out)
  replace HL := Aside0.mk (Kd.C_below HL.out hb.out)
  replace HB := HB.trans hb
  clear hb
  go_wp2_with fail
  refine (Alike_calls _ _ _ _ la lb _ HA.out HL.out).mono ?_
  rintro e w1 ⟨rfl, rfl⟩
  rw [v16]
  go_wp2
  go_ret
  exact ⟨rfl, HB⟩
end Go.Proofs.Ytfngbmcedkncjaa
