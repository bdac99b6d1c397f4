/- Two digests compared; loads of digests in a region that draws its order. -/
import Derived.Test.YtfngbmcedkncjaaDig
import Derived.ChangeKeysEq
import Derived.Deep.QuietTactic
namespace Go.Proofs.Ytfngbmcedkncjaa
open Go.RowKit Go.Proofs.YtfngbmcedkncjaaW.PrintWords Go.Proofs.YtfngbmcedkncjaaW.PrintLast Go.Proofs.YtfngbmcedkncjaaW.PrintMore Plain
set_option linter.unusedVariables false
set_option linter.unusedSimpArgs false

theorem run_part8 (x : List Int) (i : Nat) (h : i < x.length) (w : World) : (part 5 (dgCells x).toArray (i * 1)).run Try.prog w = .ok (.int .u8 (x.getD i 0)) w := by
  have hagg : (isAgg 5).run Try.prog w = .ok false w := by kernel_rfl
  have hc : (dgCells x).toArray[i * 1]? = some (.int .u8 (x.getD i 0)) := by simp [dgCells, encs, List.getD_eq_getElem?_getD, h]
  unfold part
  simp only [Sem.run_bind, hagg, Result.andThen_ok, Bool.false_eq_true, if_false, hc]
  rfl
theorem run_eqItems8 (d : Nat) (x y : List Int) (w : World) : ∀ is : List Nat, (∀ i ∈ is, i < x.length ∧ i < y.length) →
    (Op.eqItems (d + 1) 5 1 (dgCells x).toArray (dgCells y).toArray is).run Try.prog w = .ok (is.all fun i => x.getD i 0 == y.getD i 0) w
  | [], _ => by simp [Op.eqItems]
  | i :: is, h => by
    have h1 := run_part8 x i (h i (by simp)).1 w
    have h2 := run_part8 y i (h i (by simp)).2 w
    have ih := run_eqItems8 d x y w is (fun j hj => h j (by simp [hj]))
    simp only [Op.eqItems, Sem.run_bind, h1, h2, Result.andThen_ok, run_equalIn_int w d 5 .u8 .u8 (x.getD i 0) (y.getD i 0) Try.underlying5, List.all_cons]
    cases hb : (x.getD i 0 == y.getD i 0) with
    | true => simp [ih]
    | false => simp
theorem all16 (x y : List Int) (hx : x.length = 16) (hy : y.length = 16) : ((List.range 16).all fun i => x.getD i 0 == y.getD i 0) = (x == y) := by
  rw [Bool.eq_iff_iff, List.all_eq_true, beq_iff_eq]
  constructor
  · intro h
    apply List.ext_getElem (by omega)
    intro i h1 h2
    have := h i (by simp; omega)
    simpa [List.getD_eq_getElem?_getD, h1, h2] using this
  · rintro rfl i _
    simp
theorem run_equal16 (x y : List Int) (hx : x.length = 16) (hy : y.length = 16) (w : World) : (Op.equal 77 (.agg (dgCells x).toArray) (.agg (dgCells y).toArray)).run Try.prog w = .ok (x == y) w := by
  obtain ⟨i0, hi, _⟩ := Option.map_eq_some_iff.1 info5
  have h := run_equalIn_array (P := Try.prog) (w := w) 9999 (dgCells x).toArray (dgCells y).toArray Try.underlying77 hi
  have hc : Try.prog.cellsOf 5 = 1 := by kernel_rfl
  rw [hc, run_eqItems8 9998 x y w _ (fun i hi => by simp at hi; omega), all16 x y hx hy] at h
  exact h
theorem run_neq16 (x y : List Int) (hx : x.length = 16) (hy : y.length = 16) (w : World) : (binOp .neq 77 (.agg (dgCells x).toArray) (.agg (dgCells y).toArray)).run Try.prog w = .ok (.bool (x != y)) w := by
  simp [binOp, run_equal16 x y hx hy w, bne]

section
variable {P : Program} {ops : Array Oper} {rest : List Oper} {o : Oper} {a : Act} {C : World → Prop} {Q : Act → Prop}
theorem wpQuiet_load_arr {ty : TypeId} {ad : Addr} {cs : List Value} {d : TypeDesc} (hC : ∀ w, C w → ∀ j u, cs[j]? = some u → w.cell? (ad.add j) = some u)
    (hu : P.underlying ty = some d) (hd : (match d with | .struct _ | .array _ _ => true | _ => false) = true) (hi : (P.info? ty).map (·.size) = some cs.length)
    (hgd : o.guard = none) {x : Operand} (ho : o.op = .load ty x) (hx : a.eval x = .pointer (some ad)) (h : wpQuiet P ops C Q rest (a.put o.dst (.agg cs.toArray))) : wpQuiet P ops C Q (o :: rest) a := by
  unfold wpQuiet
  rw [if_pos (by simp [Region.wanted, hgd])]
  refine ⟨_, fun w hw => ?_, h⟩
  unfold Oper.quietAt execOp
  simp only [ho, hx, Instr.loadAt, Instr.sureAddr, Sem.run_bind, Sem.run_pure, Result.andThen_ok, run_loadVar_arr w ty ad cs d (hC w hw) hu hd hi]
  exact ⟨rfl, rfl⟩
end
theorem run_guard16 (p q : Operand) (xs ys : Array Value) (w : World) : (eqGuard .neq 77 p q (.agg xs) (.agg ys)).run Try.prog w = .ok () w := by
  have h : Try.prog.eqGuardType Try.prog.depth 77 = false := by kernel_rfl
  simp [eqGuard, Sem.run_bind, h]
theorem wpQuiet_neq16 {ops : Array Oper} {rest : List Oper} {o : Oper} {a : Act} {C : World → Prop} {Q : Act → Prop} {x y : List Int} (hx : x.length = 16) (hy : y.length = 16)
    (hgd : o.guard = none) {p q : Operand} {t : TypeId} (ho : o.op = .binOp .neq 77 p q t) (hp : a.eval p = .agg (dgCells x).toArray) (hq : a.eval q = .agg (dgCells y).toArray)
    (h : wpQuiet Try.prog ops C Q rest (a.put o.dst (.bool (x != y)))) : wpQuiet Try.prog ops C Q (o :: rest) a := by
  unfold wpQuiet
  rw [if_pos (by simp [Region.wanted, hgd])]
  refine ⟨_, fun w hw => ?_, h⟩
  unfold Oper.quietAt execOp
  simp only [ho, hp, hq, Sem.run_bind, Sem.run_pure, Result.andThen_ok, run_guard16, run_neq16 x y hx hy w]
  exact ⟨rfl, rfl⟩
end Go.Proofs.Ytfngbmcedkncjaa
