/- Arrays of sixteen bytes as values: loads and stores of a whole one. -/
import Derived.Test.YtfngbmcedkncjaaBase
import Derived.Deep.WholeRow
import Derived.Deep.MidRow
import Derived.Great.BuildSlice
namespace Go.Proofs.Ytfngbmcedkncjaa
open Go.RowKit Go.Proofs.YtfngbmcedkncjaaW.PrintWords Go.Proofs.YtfngbmcedkncjaaW.PrintLast Go.Proofs.YtfngbmcedkncjaaW.PrintMore Plain
set_option linter.unusedVariables false
set_option linter.unusedSimpArgs false
section
variable {P : Program}
theorem add_add (ad : Addr) (i j : Nat) : (ad.add i).add j = ad.add (i + j) := by
  unfold Addr.add
  by_cases h1 : i = 0 <;> by_cases h2 : j = 0 <;> simp [h1, h2, Nat.add_assoc]
theorem run_loadVar_arr (w : World) (ty : TypeId) (ad : Addr) (cs : List Value) (d : TypeDesc) (hc : ∀ j u, cs[j]? = some u → w.cell? (ad.add j) = some u)
    (hu : P.underlying ty = some d) (hd : (match d with | .struct _ | .array _ _ => true | _ => false) = true) (hi : (P.info? ty).map (·.size) = some cs.length) :
    (loadVar ty ad).run P w = .ok (.agg cs.toArray) w := by
  have hl : (loadCells ad cs.length).run P w = .ok cs.toArray w := run_loadCells_list (P := P) w ad cs (fun j v hv => hc j v (by simpa using hv))
  cases hq : P.info? ty with
  | none => simp [hq] at hi
  | some i =>
    have hs : i.size = cs.length := by simpa [hq] using hi
    have hagg : (isAgg ty).run P w = .ok true w := by
      unfold isAgg
      rw [Sem.run_bind, run_underlying hu w]
      cases d <;> simp_all
    simp [loadVar, Sem.run_bind, hagg, sizeOf, typeInfo, hq, hs, hl]
theorem wpList_load_arr {ops : Array Oper} {rest : List Oper} {o : Oper} {a : Act} {w : World} {Q : Exit → Act → World → Prop} {ty : TypeId} {ad : Addr} {cs : List Value} {d : TypeDesc}
    (hc : ∀ j u, cs[j]? = some u → w.cell? (ad.add j) = some u) (hu : P.underlying ty = some d) (hd : (match d with | .struct _ | .array _ _ => true | _ => false) = true) (hi : (P.info? ty).map (·.size) = some cs.length)
    (hgd : o.guard = none) {x : Operand} (ho : o.op = .load ty x) (hx : a.eval x = .pointer (some ad))
    (h : wpList P ops Q rest (a.put o.dst (.agg cs.toArray)) w) : wpList P ops Q (o :: rest) a w := by
  refine wpList_plain hgd fun K hK => ?_
  unfold Oper.wp execOp
  simp only [ho, hx, Instr.loadAt, Instr.sureAddr, Sem.run_bind, Sem.run_pure, Result.andThen_ok, run_loadVar_arr w ty ad cs d hc hu hd hi]
  exact hK _ _ h
end
/-- A digest: sixteen bytes. -/
def dgK : Kd (List Int) := Kd.arr 16 (Kd.int .u8) (by decide)
def dgCells (x : List Int) : List Value := encs (Value.int .u8) x
theorem size77 : (Try.prog.info? 77).map (·.size) = some 16 := by kernel_rfl
theorem dgCells_length (x : List Int) : (dgCells x).length = x.length := by simp [dgCells, encs]

theorem dgCells_one (x : List Int) : ∀ u ∈ dgCells x, u.oneCell' = true := by
  intro u hu
  obtain ⟨q, _, rfl⟩ := List.mem_map.1 hu
  rfl
/-- The cells of the block that was made last. -/
theorem new_cells (W : World) (cs : List Value) (t : TypeId) : ∀ j u, cs[j]? = some u → (W.alloc (.cells cs.toArray t)).cell? ((⟨W.heap.size, 0, none⟩ : Addr).add j) = some u := by
  intro j u h
  rw [add_plain, cell_of_row _ _ j cs.toArray t (0, 0) (heap_alloc_last W _)]
  simpa using h
section
variable {P : Program} {ops : Array Oper} {rest : List Oper} {o : Oper} {a : Act} {Q : Exit → Act → World → Prop}
/-- A whole array into the block that was made last. -/
theorem wpList_store_new {W : World} {ty t : TypeId} {c0 : Array Value} {cs : List Value} (hc0 : c0.size = cs.length) (hi : (P.info? ty).map (·.size) = some cs.length) (h1 : ∀ u ∈ cs, u.oneCell' = true) (hgd : o.guard = none) {x y : Operand} (ho : o.op = .store ty x y)
    (hx : a.eval x = .pointer (some ⟨W.heap.size, 0, none⟩)) (hy : a.eval y = .agg cs.toArray)
    (h : wpList P ops Q rest (a.put o.dst undef) (W.alloc (.cells cs.toArray t))) : wpList P ops Q (o :: rest) a (W.alloc (.cells c0 t)) := by
  refine wpList_plain hgd fun K hK => ?_
  unfold Oper.wp execOp
  have hrun : (storeVar ty ⟨W.heap.size, 0, none⟩ (.agg cs.toArray)).run P (W.alloc (.cells c0 t)) = .ok () (W.alloc (.cells cs.toArray t)) := by
    rw [run_storeVar_row _ _ t ty c0 cs.toArray (heap_alloc_last W _) (by simpa using hi) (by simpa using hc0) (all_oneCell_toArray h1), World.setRow_alloc_new]
  simp only [ho, hx, hy, Instr.storeAt, Instr.sureAddr, Sem.run_bind, Sem.run_pure, Result.andThen_ok, hrun]
  exact hK _ _ h
end
theorem dg_size {x : List Int} (h : x.length = 16) : (Try.prog.info? 77).map (·.size) = some (dgCells x).length := by rw [size77, dgCells_length, h]

theorem foldl_set (l : List Value) : ∀ (k : Nat) (Z : Array Value), k + l.length ≤ Z.size →
    (l.zipIdx k).foldl (fun (cs : Array Value) (x : Value × Nat) => cs.setIfInBounds x.2 x.1) Z = (Z.toList.take k ++ l ++ Z.toList.drop (k + l.length)).toArray := by
  induction l with
  | nil => intro k Z h; simp
  | cons v l ih =>
    intro k Z h
    simp only [List.length_cons] at h
    rw [List.zipIdx_cons, List.foldl_cons, ih (k + 1) _ (by simp; omega)]
    congr 1
    have hk : k < Z.toList.length := by simp; omega
    have e1 : (Z.setIfInBounds k v).toList = Z.toList.set k v := by simp
    rw [e1, List.take_set, List.drop_set, if_pos (by omega), List.take_add_one, List.getElem?_eq_getElem hk, Option.toList_some,
      List.set_append_right _ _ (by rw [List.length_take]; omega), List.length_take, Nat.min_eq_left (by omega), Nat.sub_self]
    simp only [List.set_cons_zero, List.length_cons, List.append_assoc, List.singleton_append, List.cons_append, List.nil_append]
    rw [show k + (l.length + 1) = k + 1 + l.length from by omega]
section
variable {P : Program} {ops : Array Oper} {rest : List Oper} {o : Oper} {a : Act} {Q : Exit → Act → World → Prop}
theorem fill1 {a : Act} {x : Operand} {cs : List Value} {ie : TypeInfo} {z : Value} (hsz : ie.size = cs.length) (hx : a.eval x = .agg cs.toArray) :
    Instr.fill (fun i => some (i * ie.size, ie.size)) ((Array.range (1 * ie.size)).map (z.cells[· % z.cells.size]!)) ((#[(0, x)] : Array (Nat × Operand)).map fun (i, x) => (i, a.eval x)).toList = some cs.toArray := by
  generalize hZ : (Array.range (1 * ie.size)).map (z.cells[· % z.cells.size]!) = Z
  have hZs : Z.size = cs.length := by rw [← hZ]; simp; omega
  have hf := foldl_set cs 0 Z (by omega)
  rw [List.drop_of_length_le (by simp; omega)] at hf
  simp only [List.take_zero, List.nil_append, List.append_nil] at hf
  have hf2 : (cs.toArray.zipIdx).foldl (fun (cs : Array Value) (x : Value × Nat) => cs.setIfInBounds x.2 x.1) Z = cs.toArray := by
    rw [← Array.foldl_toList, Array.toList_zipIdx]
    exact hf
  simp only [List.map_toArray, List.map_cons, List.map_nil, hx, Instr.fill, Value.cells, Nat.zero_mul, Nat.zero_add]
  rw [if_neg (by simp; omega), hf2]
/-- '[]T{x}', x of several cells: the variadic's box. -/
theorem wpList_build1 {W : World} {t e : TypeId} {cs : List Value} {ie : TypeInfo} {z : Value} (hu : P.underlying t = some (.slice e)) (hie : P.info? e = some ie) (hz : ie.zero = some z) (hsz : ie.size = cs.length) (hs : ie.size ≤ 16777216) (hp : 0 < ie.size)
    (hgd : o.guard = none) {x : Operand} (ho : o.op = .buildSlice t 1 #[(0, x)]) (hx : a.eval x = .agg cs.toArray)
    (h : wpList P ops Q rest (a.put o.dst (.slice (some ⟨W.heap.size, 0, none⟩) 1 1)) (W.alloc (.cells cs.toArray e))) : wpList P ops Q (o :: rest) a W := by
  exact wpList_buildSlice hgd t e 1 _ ho cs.toArray ie z hu hie hz (by omega) (by omega) (fill1 hsz hx) h
end
section
variable {P : Program} {ops : Array Oper} {rest : List Oper} {o : Oper} {a : Act} {Q : Exit → Act → World → Prop}
theorem wpList_of_wp {w : World} (hw : Region.wanted o (yielded ops a.tmps) = true) (h : ∀ K : Act → World → Prop, (∀ a w, wpList P ops Q rest a w → K a w) → o.wp P a w K Q) : wpList P ops Q (o :: rest) a w :=
  wpList_step fun K hK => by rw [if_pos hw]; exact h K hK
/-- The load and the box of a whole array behind a guard that says yes. -/
theorem wpList_load_arr_g {w : World} {ty : TypeId} {ad : Addr} {cs : List Value} {d : TypeDesc}
    (hc : ∀ j u, cs[j]? = some u → w.cell? (ad.add j) = some u) (hu : P.underlying ty = some d) (hd : (match d with | .struct _ | .array _ _ => true | _ => false) = true) (hi : (P.info? ty).map (·.size) = some cs.length)
    {x : Operand} (ho : o.op = .load ty x) (hx : a.eval x = .pointer (some ad)) (hw : Region.wanted o (yielded ops a.tmps) = true)
    (h : wpList P ops Q rest (a.put o.dst (.agg cs.toArray)) w) : wpList P ops Q (o :: rest) a w := by
  refine wpList_of_wp hw fun K hK => ?_
  unfold Oper.wp execOp
  simp only [ho, hx, Instr.loadAt, Instr.sureAddr, Sem.run_bind, Sem.run_pure, Result.andThen_ok, run_loadVar_arr w ty ad cs d hc hu hd hi]
  exact hK _ _ h
theorem wpList_build1_g {W : World} {t e : TypeId} {cs : List Value} {ie : TypeInfo} {z : Value} (hu : P.underlying t = some (.slice e)) (hie : P.info? e = some ie) (hz : ie.zero = some z) (hsz : ie.size = cs.length) (hs : ie.size ≤ 16777216) (hp : 0 < ie.size)
    {x : Operand} (ho : o.op = .buildSlice t 1 #[(0, x)]) (hx : a.eval x = .agg cs.toArray) (hw : Region.wanted o (yielded ops a.tmps) = true)
    (h : wpList P ops Q rest (a.put o.dst (.slice (some ⟨W.heap.size, 0, none⟩) 1 1)) (W.alloc (.cells cs.toArray e))) : wpList P ops Q (o :: rest) a W := by
  refine wpList_of_wp hw fun K hK => ?_
  refine wp_buildSlice t e 1 _ ho cs.toArray ie z hu hie hz (by omega) (by omega) (fill1 hsz hx) (hK _ _ h)
end
end Go.Proofs.Ytfngbmcedkncjaa
