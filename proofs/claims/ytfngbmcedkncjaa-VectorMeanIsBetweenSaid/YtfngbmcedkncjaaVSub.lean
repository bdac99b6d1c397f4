/- slices.Clone at int (86), Sub (55, 56), Key (59, 60): walked. The specification's Sub (56), Key (60), and vector.Key (59): walked. -/
import Derived.Test.YtfngbmcedkncjaaDig
import Derived.RegionTactic
import Derived.ChangeAlike
import Derived.Test.YtfngbmcedkncjaaVDot
namespace Go.Proofs.Ytfngbmcedkncjaa
open Go.RowKit Go.Proofs.YtfngbmcedkncjaaW.PrintWords Go.Proofs.YtfngbmcedkncjaaW.PrintLast Go.Proofs.YtfngbmcedkncjaaW.PrintMore Plain
set_option linter.unusedVariables false
set_option linter.unusedSimpArgs false
/-- Where the elements of a row of the call's own lie. -/
theorem Own.cells {B : Nat} {w : World} {v : Value} {xs : List Int} (h : Own (Kd.int .i64) 3 B w v xs) (hp : 0 < xs.length) : ∃ g cap, v = .slice (some ⟨g, 0, none⟩) xs.length cap ∧ B ≤ g ∧ g < w.heap.size ∧
    ∀ k : Nat, k < xs.length → w.cell? ⟨g, k, none⟩ = some (.int .i64 (rd xs k)) ∧ w.frozen? ⟨g, k, none⟩ = false := by
  obtain ⟨g, cap, rfl, hg, hlt, _⟩ := Kd.R_form h.out hp
  refine ⟨g, cap, rfl, hg, hlt, fun k hk => ?_⟩
  have := Kd.R_cell (enc := Value.int .i64) 0 h.out (k : Int) (by omega) (by omega)
  rw [Int.toNat_natCast] at this
  exact this
/-- One element stored. -/
theorem Own.put {B : Nat} {w : World} {g n cap : Nat} {xs : List Int} (h : Own (Kd.int .i64) 3 B w (.slice (some ⟨g, 0, none⟩) n cap) xs) (k : Nat) (x : Int) : Own (Kd.int .i64) 3 B (w.setCell ⟨g, k, none⟩ (.int .i64 x)) (.slice (some ⟨g, 0, none⟩) n cap) (xs.set k x) := by
  have := Kd.R_putn (enc := Value.int .i64) h.out (k : Int) x
  rw [Int.toNat_natCast] at this
  exact ⟨this⟩
theorem Bel.setCell {B : Nat} {w w1 : World} (h : Bel B w w1) {p : Addr} (hp : B ≤ p.block) (u : Value) : Bel B w (w1.setCell p u) := ⟨h.out.setCell hp _⟩
theorem Own.drew {α : Type} {d : Kd α} {e B : Nat} {w : World} {v : Value} {xs : List α} (h : Own d e B w v xs) : Own d e B w.drew v xs := ⟨Kd.R_drew h.out⟩
theorem Bel.drew {B : Nat} {w w1 : World} (h : Bel B w w1) : Bel B w w1.drew := ⟨below_drew h.out⟩
set_option maxHeartbeats 400000 in
set_option maxRecDepth 100000 in
theorem Clone_calls (A : Option Addr) (c : Nat) (l : List Int) (w : World) (hr : Kd.C (Kd.int .i64) w A l.length l) (hl : l.length * 8 ≤ 140737488355328) :
    Calls Try.prog 86 #[.slice A l.length c] w fun e w' => ∃ v, e = .returned v ∧ Own (Kd.int .i64) 3 w.heap.size w' v l ∧ Bel w.heap.size w w' := by
  have HR := Aside0.mk hr
  have HL := Aside0.mk hl
  clear hr hl
  cases A with
  | none =>
    have e : l = [] := by
      have h := HR.out.2.2
      by_cases hp : 0 < l.length
      · obtain ⟨a, ha, _⟩ := h hp; cases ha
      · exact List.length_eq_zero_iff.1 (by omega)
    subst e
    have heq := fun (W : World) => Lib.run_eql_slice_nil (P := Try.prog) W 22 3 none 0 c 0 0 Try.underlying22
    simp only [Option.isNone_none] at heq
    go_enter Try.func86, Try.ntmps86
    go_wp2
    go_ret
    exact ⟨_, rfl, Own.nil _ _ _ _, Bel.refl _⟩
  | some ad =>
    have heq := fun (W : World) => Lib.run_eql_slice_nil (P := Try.prog) W 22 3 (some ad) l.length c 0 0 Try.underlying22
    simp only [Option.isNone_some] at heq
    have HO : Own (Kd.int .i64) 3 w.heap.size (w.alloc (.cells #[] 3)) (.slice (some ⟨w.heap.size, 0, none⟩) 0 0) [] := own_empty w 3 _ _
    have HB := (Bel.refl w).alloc (.cells #[] 3)
    go_enter Try.func86, Try.ntmps86
    go_wp2_with (at_builtin; refine ap_row (Value.int .i64) 0 (w := w) ty_int HO HB (Kd.C_alloc HR.out _) (by have := HL.out; simp only [List.length_nil]; omega) rfl rfl rfl rfl ?_; intro v1 w1 HO1 HB1; clear HO HB)
    go_ret
    exact ⟨_, rfl, HO1, HB1⟩
/-- What has been taken off so far. -/
def subTo (a b : List Int) (k : Nat) : List Int := vsub (a.take k) (b.take k) ++ a.drop k
theorem subTo_end {a b : List Int} (h : a.length = b.length) : subTo a b a.length = vsub a b := by
  unfold subTo
  rw [List.take_length, h, List.take_length, ← h, List.drop_length, List.append_nil]
theorem subTo_length {a b : List Int} (h : a.length = b.length) (k : Nat) : (subTo a b k).length = a.length := by
  unfold subTo
  rw [List.length_append, vsub_length (by simp [h]), List.length_take, List.length_drop]; omega
theorem vsub_snoc : ∀ {a b : List Int} (x y : Int), a.length = b.length → vsub (a ++ [x]) (b ++ [y]) = vsub a b ++ [x - y]
  | [], [], x, y, _ => rfl
  | u :: a, v :: b, x, y, h => by simp [vsub, vsub_snoc x y (show a.length = b.length by simpa using h)]
theorem rd_at' {l : List Int} {k : Nat} (h : k < l.length) : l[k]? = some (rd l k) := by simp [rd, List.getD_eq_getElem?_getD, h]
theorem vsub_take {a b : List Int} (h : a.length = b.length) {k : Nat} (hk : k < a.length) : vsub (a.take (k + 1)) (b.take (k + 1)) = vsub (a.take k) (b.take k) ++ [rd a k - rd b k] := by
  rw [List.take_add_one, List.take_add_one, rd_at' hk, rd_at' (show k < b.length by omega)]
  exact vsub_snoc _ _ (by simp [h])
theorem rd_subTo {a b : List Int} (h : a.length = b.length) {k : Nat} (hk : k < a.length) : rd (subTo a b k) k = rd a k := by
  unfold subTo
  have e : (vsub (a.take k) (b.take k)).length = k := by rw [vsub_length (by simp [h]), List.length_take]; omega
  have : (vsub (a.take k) (b.take k) ++ a.drop k)[k]? = some (rd a k) := by
    rw [List.getElem?_append_right (by omega), e, vdrop_at a k hk]; simp
  simp only [rd, List.getD_eq_getElem?_getD, Int.toNat_natCast] at this ⊢
  rw [this]; rfl
theorem set_subTo {a b : List Int} (h : a.length = b.length) {k : Nat} (hk : k < a.length) : (subTo a b k).set k (rd a k - rd b k) = subTo a b (k + 1) := by
  unfold subTo
  have e : (vsub (a.take k) (b.take k)).length = k := by rw [vsub_length (by simp [h]), List.length_take]; omega
  rw [vsub_take h hk, List.set_append_right _ _ (by omega), e, vdrop_at a k hk]
  simp
set_option maxHeartbeats 1000000 in
set_option maxRecDepth 100000 in
theorem Sub_calls (A A' : Option Addr) (c c' : Nat) (l l' : List Int) (w : World) (hr : Kd.C (Kd.int .i64) w A l.length l) (hr' : Kd.C (Kd.int .i64) w A' l'.length l') (hl : l.length = l'.length) (hs : Small l) (hs' : Small l') (hn : l.length ≤ 1000) :
    Calls Try.prog 55 #[.slice A l.length c, .slice A' l'.length c'] w fun e w' => ∃ v, e = .returned v ∧ Own (Kd.int .i64) 3 w.heap.size w' v (vsub l l') ∧ Bel w.heap.size w w' := by
  have HR' := Aside0.mk hr'
  have H := Aside0.mk (Clone_calls A c l w hr (by omega))
  have HL := Aside0.mk hl
  have HS := Aside0.mk hs
  have HS' := Aside0.mk hs'
  have hm' := hr'.2.1
  clear hr hr' hl hs hs'
  go_enter Try.func55, Try.ntmps55
  go_wp2_with fail
  refine H.out.mono ?_
  rintro e w1 ⟨v, rfl, HO, HB⟩
  by_cases hp : 0 < l.length
  · obtain ⟨g, cap, rfl, hg, hlt0, hcell⟩ := HO.cells hp
    clear hcell
    go_wp2
    go_loopw [11] (fun v11 wr => ∃ k : Nat, v11 = .int .i64 k ∧ k ≤ l.length ∧ Own (Kd.int .i64) 3 w.heap.size wr (.slice (some ⟨g, 0, none⟩) l.length cap) (subTo l l' k) ∧ Bel w.heap.size w wr) (fun v11 _ => l.length - (intOf v11).toNat)
    case atStart => exact ⟨0, rfl, by omega, by simpa [subTo, vsub] using HO, HB⟩
    case round =>
      clear HO HB
      obtain ⟨k, rfl, hk, HO, HB⟩ := hrel
      by_cases hlt : k < l.length
      · have hlt' : k < l'.length := by have := HL.out; omega
        have hq : (k : Int) < (l.length : Int) := by omega
        have hq' : (k : Int) < (l'.length : Int) := by omega
        obtain ⟨g', cap', e, _, hgl, hcell⟩ := HO.cells (by rw [subTo_length HL.out]; omega)
        simp only [Value.slice.injEq, Option.some.injEq, Addr.mk.injEq] at e
        obtain ⟨⟨rfl, -, -⟩, -, rfl⟩ := e
        obtain ⟨hc1, hc2⟩ := hcell k (by rw [subTo_length HL.out]; omega)
        rw [rd_subTo HL.out hlt] at hc1
        obtain ⟨ad', e, hx'⟩ := Kd.at_int (Kd.C_below HR'.out HB.out) k (by omega) hq'
        cases e
        rw [Int.toNat_natCast] at hx'
        have HP := Aside0.mk (set_subTo HL.out hlt)
        have HX := Aside0.mk (HS.out _ (rd_mem' hlt))
        have HX' := Aside0.mk (HS'.out _ (rd_mem' hlt'))
        generalize rd l k = x at *
        generalize rd l' k = y at *
        have hw1 : IntKind.i64.wrap (x - y) = x - y := wrap_in (by have := HX.out; have := HX'.out; omega) (by have := HX.out; have := HX'.out; omega)
        clear hcell
        have HO1 := (HO.put k (x - y)).drew
        have HB1 := (HB.setCell (p := ⟨g, k, none⟩) hg (.int .i64 (x - y))).drew
        rw [HP.out] at HO1
        clear HO HB
        go_wp2
        go_region
        clear hw1
        go_wp2
        go_roundw
        case rel => exact ⟨k + 1, by go_num, by omega, HO1, HB1⟩
        case measure => simp [intOf]; omega
      · obtain rfl : k = l.length := by omega
        rw [subTo_end HL.out] at HO
        go_wp2
        go_ret
        exact ⟨_, rfl, HO, HB⟩
  · obtain ⟨A0, c0, rfl, -, -⟩ := HO.reads
    have e0 : l = [] := List.length_eq_zero_iff.1 (by omega)
    have e1 : vsub l l' = [] := by rw [e0]; rfl
    have HE := Aside0.mk e1
    have hz : (l.length : Int) ≤ 0 := by omega
    clear e1
    subst e0
    go_wp2
    refine wp_loop_rounds 1 ?_
    rw [rounds_succ]
    go_wp2
    go_ret
    exact ⟨_, rfl, by rw [HE.out]; exact HO, HB⟩
end Go.Proofs.Ytfngbmcedkncjaa
namespace Go.Proofs.Ytfngbmcedkncjaa
open Go.RowKit Go.Proofs.YtfngbmcedkncjaaW.PrintWords Go.Proofs.YtfngbmcedkncjaaW.PrintLast Go.Proofs.YtfngbmcedkncjaaW.PrintMore Plain
set_option linter.unusedVariables false
set_option linter.unusedSimpArgs false
section
variable {α : Type} {ops : Array Oper} {o : Oper} {a : Act} {Q : Exit → Act → World → Prop} {Kc : Act → World → Prop}
/-- append(v, p) as the step of a region that draws its order. -/
theorem ap_one_step (d : Kd α) {w W : World} {t e : TypeId} {z : Value} {bytes : Nat} (T : Ty d.sz t e z bytes) {v : Value} {xs : List α}
    (HO : Own d e w.heap.size W v xs) (HB : Bel w.heap.size w W) (hl : (xs.length + 1) * bytes ≤ 140737488355328) (hw : Region.wanted o (yielded ops a.tmps) = true) {s x : Operand}
    (ho : o.op = .call { callee := .builtin .append, args := #[s, x], argTypes := #[t, t] }) {p : α} {cs : List Value}
    (hs : a.eval s = v) (hx : a.eval x = .slice (some ⟨W.heap.size, 0, none⟩) 1 1) (hp : d.M W w.heap.size (fun _ => False) p cs)
    (h : ∀ v1 w1, Own d e w.heap.size w1 v1 (xs ++ [p]) → Bel w.heap.size w w1 → Kc (a.put o.dst v1) w1) :
    if Region.wanted o (yielded ops a.tmps) = true then Oper.wp Try.prog o a (W.alloc (.cells cs.toArray e)).drew Kc Q else Kc (a.put o.dst undef) (W.alloc (.cells cs.toArray e)).drew :=
  Kd.R_append_step d (w0 := w) (W := W.drew) w.heap.size hw s x t e z bytes ho T.ht T.hinfo T.hz T.hs T.hb v xs p cs (fun _ => True) (fun _ => False) hs hx (Kd.M_below hp (below_drew (Below.refl _ _))) (fun _ hk => hk.elim) (fun _ _ => trivial) HO.drew.out HB.drew.out HB.size hl
    fun v1 w1 h1 h2 _ _ => h v1 w1 ⟨h1⟩ ⟨h2⟩
end
set_option maxHeartbeats 1000000 in
set_option maxRecDepth 100000 in
theorem refSub_calls (A A' : Option Addr) (c c' : Nat) (l l' : List Int) (w : World) (hr : Kd.C (Kd.int .i64) w A l.length l) (hr' : Kd.C (Kd.int .i64) w A' l'.length l') (hl : l.length = l'.length) (hs : Small l) (hs' : Small l') (hn : l.length ≤ 1000) :
    Calls Try.prog 56 #[.slice A l.length c, .slice A' l'.length c'] w fun e w' => ∃ v, e = .returned v ∧ Own (Kd.int .i64) 3 w.heap.size w' v (vsub l l') ∧ Bel w.heap.size w w' := by
  have HR := Aside0.mk hr
  have HR' := Aside0.mk hr'
  have HL := Aside0.mk hl
  have HS := Aside0.mk hs
  have HS' := Aside0.mk hs'
  have hm := hr.2.1
  have hm' := hr'.2.1
  clear hr hr' hl hs hs'
  go_enter Try.func56, Try.ntmps56
  go_wp2
  go_loopw [5, 6] (fun v5 v6 wr => ∃ k : Nat, v6 = .int .i64 k ∧ k ≤ l.length ∧ Own (Kd.int .i64) 3 w.heap.size wr v5 (vsub (l.take k) (l'.take k)) ∧ Bel w.heap.size w wr) (fun _ v6 _ => l.length - (intOf v6).toNat)
  case atStart => exact ⟨0, rfl, by omega, Own.nil _ _ _ _, Bel.refl _⟩
  case round =>
    obtain ⟨k, rfl, hk, HO, HB⟩ := hrel
    by_cases hlt : k < l.length
    · have hlt' : k < l'.length := by have := HL.out; omega
      have hq : (k : Int) < (l.length : Int) := by omega
      have hq' : (k : Int) < (l'.length : Int) := by omega
      obtain ⟨ad, e, hx0⟩ := Kd.at_int HR.out k (by omega) hq
      cases e
      obtain ⟨ad', e, hx0'⟩ := Kd.at_int HR'.out k (by omega) hq'
      cases e
      rw [Int.toNat_natCast] at hx0 hx0'
      have hx := pw_cell_below HB.out hx0
      have hx' := pw_cell_below HB.out hx0'
      have HX0 := Aside0.mk hx0
      have HX0' := Aside0.mk hx0'
      clear hx0 hx0'
      have HT := Aside0.mk (vsub_take HL.out hlt)
      have HX := Aside0.mk (HS.out _ (rd_mem' hlt))
      have HX' := Aside0.mk (HS'.out _ (rd_mem' hlt'))
      generalize rd l k = x at *
      generalize rd l' k = y at *
      have hw1 : IntKind.i64.wrap (x - y) = x - y := wrap_in (by have := HX.out; have := HX'.out; omega) (by have := HX.out; have := HX'.out; omega)
      go_wp2
      go_region_held3 (fun w' => w'.cell? (ad.add k) = some (.int .i64 x) ∧ w'.cell? (ad'.add k) = some (.int .i64 y))
        (first | go_keep | exact ⟨pw_cell_below HB1.out HX0.out, pw_cell_below HB1.out HX0'.out⟩)
        ((refine ap_one_step (Kd.int .i64) (w := w) ty_int HO HB (by have := HL.out; rw [vsub_length (by simp [HL.out]), List.length_take]; omega) (by rfl) (by rfl) (by rfl) (by rfl) (p := x - y) (cs := [.int .i64 (x - y)]) (by rfl) ?_; intro v1 w1 HO1 HB1))
      clear hw1 HO HB
      go_wp2
      go_roundw
      case rel => exact ⟨k + 1, by go_num, by omega, by rw [HT.out]; exact HO1, HB1⟩
      case measure => simp [intOf]; omega
    · obtain rfl : k = l.length := by omega
      go_wp2
      go_ret
      exact ⟨_, rfl, by have h := HO; rw [List.take_length, HL.out, List.take_length] at h; exact h, HB⟩
set_option maxHeartbeats 400000 in
set_option maxRecDepth 100000 in
theorem Key_calls {m : Int} (hmet : 1 ≤ m ∧ m ≤ 3) (A A' : Option Addr) (c c' : Nat) (l l' : List Int) (w : World) (hr : Kd.C (Kd.int .i64) w A l.length l) (hr' : Kd.C (Kd.int .i64) w A' l'.length l') (hv : vAlike l l' = true) :
    Calls Try.prog 59 #[.int .i64 m, .slice A l.length c, .slice A' l'.length c'] w fun e w' => e = .returned (.int .i64 (vkey m l l')) ∧ Bel w.heap.size w w' := by
  have HM := Aside0.mk hmet
  have HD := Aside0.mk (vDiff_iff.1 (vsub_diff hv))
  obtain ⟨h1, h2, h3⟩ := vAlike_iff.1 hv
  obtain ⟨g1, g2, g3⟩ := vOk_iff.1 h1
  obtain ⟨k1, k2, k3⟩ := vOk_iff.1 h2
  have H := Aside0.mk (Sub_calls A A' c c' l l' w hr hr' h3 (fun x hx => by have := g1 x hx; omega) (fun x hx => by have := k1 x hx; omega) (by omega))
  have HE : Aside0 (vkey m l l' = vnorm m (vsub l l')) := ⟨rfl⟩
  clear hr hr' hmet hv h1 h2 h3 g1 g2 g3 k1 k2 k3
  generalize vkey m l l' = T at *
  generalize vsub l l' = D at *
  go_enter Try.func59, Try.ntmps59
  go_wp2_with fail
  refine H.out.mono ?_
  rintro e w1 ⟨v, rfl, HO, HB⟩
  obtain ⟨A1, c1, rfl, -, hC⟩ := HO.reads
  clear HO
  go_wp2_with fail
  refine (Norm_calls HM.out A1 c1 D _ hC (fun x hx => HD.out.1 x hx) (by have := HD.out.2; omega)).mono ?_
  rintro e w2 ⟨rfl, hd⟩
  clear hC
  go_wp2
  go_ret
  exact ⟨by rw [HE.out]; rfl, HB.trans hd⟩
set_option maxHeartbeats 400000 in
set_option maxRecDepth 100000 in
theorem refKey_calls {m : Int} (hmet : 1 ≤ m ∧ m ≤ 3) (A A' : Option Addr) (c c' : Nat) (l l' : List Int) (w : World) (hr : Kd.C (Kd.int .i64) w A l.length l) (hr' : Kd.C (Kd.int .i64) w A' l'.length l') (hv : vAlike l l' = true) :
    Calls Try.prog 60 #[.int .i64 m, .slice A l.length c, .slice A' l'.length c'] w fun e w' => e = .returned (.int .i64 (vkey m l l')) ∧ Bel w.heap.size w w' := by
  have HM := Aside0.mk hmet
  have HD := Aside0.mk (vDiff_iff.1 (vsub_diff hv))
  obtain ⟨h1, h2, h3⟩ := vAlike_iff.1 hv
  obtain ⟨g1, g2, g3⟩ := vOk_iff.1 h1
  obtain ⟨k1, k2, k3⟩ := vOk_iff.1 h2
  have H := Aside0.mk (refSub_calls A A' c c' l l' w hr hr' h3 (fun x hx => by have := g1 x hx; omega) (fun x hx => by have := k1 x hx; omega) (by omega))
  have HE : Aside0 (vkey m l l' = vnorm m (vsub l l')) := ⟨rfl⟩
  clear hr hr' hmet hv h1 h2 h3 g1 g2 g3 k1 k2 k3
  generalize vkey m l l' = T at *
  generalize vsub l l' = D at *
  go_enter Try.func60, Try.ntmps60
  go_wp2_with fail
  refine H.out.mono ?_
  rintro e w1 ⟨v, rfl, HO, HB⟩
  obtain ⟨A1, c1, rfl, -, hC⟩ := HO.reads
  clear HO
  go_wp2_with fail
  refine (refNorm_calls HM.out A1 c1 D _ hC (fun x hx => HD.out.1 x hx) (by have := HD.out.2; omega)).mono ?_
  rintro e w2 ⟨rfl, hd⟩
  clear hC
  go_wp2
  go_ret
  exact ⟨by rw [HE.out]; rfl, HB.drawn hd⟩
end Go.Proofs.Ytfngbmcedkncjaa
