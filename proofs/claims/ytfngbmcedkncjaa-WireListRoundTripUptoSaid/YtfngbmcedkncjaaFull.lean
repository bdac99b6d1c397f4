/- append(b[:len(b):len(b)], tail...): a new row, or b itself where the tail is empty. -/
import Derived.Test.YtfngbmcedkncjaaDig
namespace Go.Proofs.Ytfngbmcedkncjaa
open Go.RowKit Go.Proofs.YtfngbmcedkncjaaW.PrintWords Go.Proofs.YtfngbmcedkncjaaW.PrintLast Go.Proofs.YtfngbmcedkncjaaW.PrintMore Plain
set_option linter.unusedVariables false
set_option linter.unusedSimpArgs false
theorem cells_of_C {w : World} {ad : Addr} {n : Nat} {l : List Int} (h : Kd.C (Kd.int .u8) w (some ad) n l) : ∀ j u, (dgCells l)[j]? = some u → w.cell? (ad.add j) = some u := by
  intro j u hu
  have hj : j < l.length := by
    have := (List.getElem?_eq_some_iff.1 hu).1
    rwa [dgCells_length] at this
  have hn := h.1
  obtain ⟨ad', e, hc⟩ := Kd.at_int h j (by omega) (by omega)
  cases e
  rw [Int.toNat_natCast] at hc
  rw [hc]
  simp only [dgCells, encs, List.getElem?_map] at hu
  rw [rd_at l j hj] at hu
  exact hu
/-- A slice of bytes that reads xs. -/
def Reads8 (w : World) (v : Value) (xs : List Int) : Prop := ∃ A c, v = .slice A xs.length c ∧ xs.length ≤ c ∧ Kd.C (Kd.int .u8) w A xs.length xs
section
variable {ops : Array Oper} {rest : List Oper} {o : Oper} {a : Act} {Q : Exit → Act → World → Prop}
theorem run_full {W : World} {ty : TypeId} {ad : Addr} {B : Option Addr} {c : Nat} {xs ys : List Int} (h1 : Kd.C (Kd.int .u8) W (some ad) xs.length xs) (h2 : Kd.C (Kd.int .u8) W B ys.length ys) (hl : xs.length + ys.length ≤ 140737488355328) :
    ∃ v1 w1, (Builtin.append_ #[28, 28] ty #[.slice (some ad) xs.length xs.length, .slice B ys.length c]).run Try.prog W = .ok v1 w1 ∧ Reads8 w1 v1 (xs ++ ys) ∧ Bel W.heap.size W w1 := by
  obtain ⟨i0, hi, hzz⟩ := Option.map_eq_some_iff.1 info5
  simp only [Prod.mk.injEq] at hzz
  obtain ⟨hz0, hz1, hz2⟩ := hzz
  by_cases hy : ys = []
  · subst hy
    refine ⟨.slice (some ad) xs.length xs.length, W, ?_, ⟨some ad, xs.length, by simp, by simp, by simpa using h1⟩, Bel.refl W⟩
    cases B <;> simp [Builtin.append_, run_underlying Try.underlying28, sizeOf, typeInfo, hi, Builtin.lenOf, Builtin.firstCells, loadCells, loadCellsFrom, storeCells]
  · have hpos : 0 < ys.length := List.length_pos_iff.2 hy
    obtain ⟨ad2, rfl, _⟩ := Kd.at_int h2 0 (by omega) (by omega)
    obtain ⟨v1, w1, hr, ho, hg⟩ := run_append_arg_grows (P := Try.prog) W 28 ty 5 i0 (.int .u8 0) 1 1 Try.underlying28 hi hz0 hz1 hz2 rfl (by decide) ad xs.length xs.length (dgCells xs) (by rw [dgCells_length]; omega) (cells_of_C h1) ad2 ys.length c (dgCells ys) (by rw [dgCells_length]; omega) (cells_of_C h2) (by omega) (by simp only [maxLen]; omega) (by omega)
    have e : dgCells xs ++ dgCells ys = encs (Value.int .u8) (xs ++ ys) := by simp [dgCells, encs]
    have hlen : xs.length + ys.length = (xs ++ ys).length := by simp
    rw [e, hlen] at ho
    have hR : Own (Kd.int .u8) 5 W.heap.size w1 v1 (xs ++ ys) := ⟨Kd.R_of_own ho (fun _ _ => trivial)⟩
    exact ⟨v1, w1, hr, hR.reads, ⟨(Below.refl W.heap.size W).grown hg (Nat.le_refl _) (fun k hk => by cases hk)⟩⟩
theorem ap_full {W : World} {ad : Addr} {B : Option Addr} {c : Nat} {xs ys : List Int} (h1 : Kd.C (Kd.int .u8) W (some ad) xs.length xs) (h2 : Kd.C (Kd.int .u8) W B ys.length ys) (hl : xs.length + ys.length ≤ 140737488355328)
    (hgd : o.guard = none) {s x : Operand} (ho : o.op = .call { callee := .builtin .append, args := #[s, x], argTypes := #[28, 28] }) (hs : a.eval s = .slice (some ad) xs.length xs.length) (hx : a.eval x = .slice B ys.length c)
    (h : ∀ v1 w1, Reads8 w1 v1 (xs ++ ys) → Bel W.heap.size W w1 → wpList Try.prog ops Q rest (a.put o.dst v1) w1) : wpList Try.prog ops Q (o :: rest) a W := by
  obtain ⟨v1, w1, hr, hrd, hb⟩ := run_full (ty := o.type) (c := c) h1 h2 hl
  refine wpList_plain hgd fun K hK => ?_
  unfold Oper.wp execOp
  simp only [ho, resolve, invoke, builtin, Sem.run_bind, Sem.run_pure, Result.andThen_ok, List.map_toArray, List.map_cons, List.map_nil, hs, hx, hr]
  exact hK _ _ (h v1 w1 hrd hb)
end
/-- b[:len(b):len(b)] -/
theorem cut_full (A : Option Addr) (n c : Nat) (h : n ≤ c) (hm : n ≤ 9223372036854775807) : ∀ W : World, (Instr.slice 28 (.slice A n c) none (some (.int .i64 (n : Int))) (some (.int .i64 (n : Int)))).run Try.prog W = .ok (.slice A n n) W := by
  obtain ⟨i0, hi, hzz⟩ := Option.map_eq_some_iff.1 info5
  simp only [Prod.mk.injEq] at hzz
  intro W
  have hel : Try.prog.elem 28 = 5 := by simp [Program.elem, Try.underlying28]
  have hu : Try.prog.underlying 28 = some (.slice (Try.prog.elem 28)) := by rw [hel]; exact Try.underlying28
  have ha : (A.map fun x => x.add 0) = A := by cases A <;> simp [Addr.add]
  rw [run_slice_hm W 28 A n c hu .i64 .i64 (n : Int) (n : Int) (by omega) (by omega) (by omega), hel]
  simp [sizeOf, typeInfo, hi, hzz.2.1, sliced, Result.andThen, ha]
end Go.Proofs.Ytfngbmcedkncjaa
