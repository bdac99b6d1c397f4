/- Slices that came in, opened: integers, strings, arrays of 16 bytes; and what their bulk bounds. -/
import Derived.Test.YtfngbmcedkncjaaRows
import Derived.Test.YtfngbmcedkncjaaRow
import Derived.Test.YtfngbmcedkncjaaArr
import Derived.SliceStrings
import Derived.Deep.Slices
namespace Go.Proofs.Ytfngbmcedkncjaa
open Go.ChangeShapes Go.WideShapes Go.ChangeAt Go.RowKit Go.Proofs.YtfngbmcedkncjaaW.PrintWords Go.Proofs.YtfngbmcedkncjaaW.PrintLast Go.Proofs.YtfngbmcedkncjaaW.PrintMore Plain
set_option linter.unusedVariables false
variable {H : Type} {enc : TypeId × Value → H}
theorem bulk_one (d : DataW H) : 1 ≤ Rows.uptoBulk d := by
  cases d with
  | lit l => cases l <;> simp [Rows.uptoBulk]
  | nil => simp [Rows.uptoBulk]
  | ptr d => simp [Rows.uptoBulk]
  | slice elems spare => simp [Rows.uptoBulk]
  | agg parts => simp [Rows.uptoBulk]
  | iface t d => simp [Rows.uptoBulk]
  | map entries => simp [Rows.uptoBulk]
  | held h => simp [Rows.uptoBulk]
theorem bulk_length (l : List (DataW H)) : l.length ≤ Rows.uptoBulkAll l := by
  induction l with
  | nil => simp [Rows.uptoBulkAll]
  | cons x r ih => have := bulk_one x; simp only [Rows.uptoBulkAll, List.length_cons]; omega
/-- Bytes of all strings. -/
def strBytes (l : List ByteArray) : Nat := (l.map ByteArray.size).sum
theorem bulk_strs (l : List ByteArray) : Rows.uptoBulkAll (strs (H := H) l) = l.length + strBytes l := by
  induction l with
  | nil => simp [strs, Rows.uptoBulkAll, strBytes]
  | cons x r ih =>
    have e : strs (H := H) (x :: r) = .lit (.string x.data.toList) :: strs r := rfl
    rw [e]
    simp only [Rows.uptoBulkAll, Rows.uptoBulk, ih, strBytes, List.map_cons, List.sum_cons, List.length_cons]
    have : x.data.toList.length = x.size := rfl
    omega
theorem opened_ints {A : Option Addr} {len cap : Nat} {d : DataW H} {p : List MemPlace} {W : World} (h : DataW.Trod enc Try.prog W 0 (fun _ => true) true 22 (.slice A len cap) d p) :
    ∃ l : List Int, l.length = len ∧ Kd.C (Kd.int .i64) W A l.length l ∧ l.length ≤ cap ∧ (∀ x ∈ l, I64 x) ∧ l.length ≤ Rows.uptoBulk d := by
  obtain ⟨fuel, hf⟩ := h
  rcases open_ints Try.underlying22 Try.underlying3 (by kernel_rfl) hf with ⟨hcs, _⟩ | ⟨x, l, c, zs, hcs, _, hl, hm, hz, hx, hcell, hwz⟩
  · simp [Value.cells] at hcs
    obtain ⟨rfl, rfl, rfl⟩ := hcs
    exact ⟨[], rfl, ⟨rfl, by simp, fun h => absurd h (by simp)⟩, Nat.le_refl _, by simp, Nat.zero_le _⟩
  · simp [Value.cells] at hcs
    obtain ⟨rfl, rfl, rfl⟩ := hcs
    have hz' : zs.length = cap := by simpa using hz
    obtain ⟨l, h1, h2, h3, h4, _⟩ := IsRow.reads (.inr ⟨_, rfl, hl, hm, hz', hcell, hwz⟩ : IsRow .i64 W (some x) len cap zs)
    refine ⟨l, h1, h2, h3, fun x hx => i64_of_wf (h4 x hx), ?_⟩
    simp only [Prod.mk.injEq] at hx
    obtain ⟨rfl, rfl⟩ := hx
    simp only [Rows.uptoBulk]
    have h5 := bulk_length (H := H) (lits .i64 (zs.take len))
    simp only [lits, List.length_map, List.length_take] at h5
    simp only [lits]
    omega
theorem opened_strs {A : Option Addr} {len cap : Nat} {d : DataW H} {p : List MemPlace} {W : World} (h : DataW.Trod enc Try.prog W 0 (fun _ => true) true 23 (.slice A len cap) d p) :
    ∃ l : List ByteArray, l.length = len ∧ Kd.C Kd.string W A l.length l ∧ l.length ≤ cap ∧ (∀ x ∈ l, x.size ≤ 9223372036854775807) ∧ l.length + strBytes l ≤ Rows.uptoBulk d := by
  obtain ⟨fuel, hf⟩ := h
  rcases open_strings Try.underlying23 Try.underlying9 (by kernel_rfl) hf with ⟨hcs, _⟩ | ⟨x, l, c, zs, hcs, _, hl, hm, hz, hx, hcell, hwz⟩
  · simp [Value.cells] at hcs
    obtain ⟨rfl, rfl, rfl⟩ := hcs
    exact ⟨[], rfl, ⟨rfl, by simp, fun h => absurd h (by simp)⟩, Nat.le_refl _, by simp, Nat.zero_le _⟩
  · simp [Value.cells] at hcs
    obtain ⟨rfl, rfl, rfl⟩ := hcs
    have hz' : zs.length = cap := by simpa using hz
    simp only [maxLen] at hm hwz
    have hlen : (zs.take len).length = len := by rw [List.length_take]; omega
    refine ⟨zs.take len, hlen, Kd.C_of_reads (enc := Value.string) (d := ByteArray.empty) ⟨rfl, by omega, fun hp => ⟨x, rfl, fun j hj => ?_⟩⟩, by omega, fun s hs => hwz s (List.mem_of_mem_take hs), ?_⟩
    · rw [hcell j (by omega)]
      simp [List.getD_eq_getElem?_getD, show j < len by omega]
    · simp only [Prod.mk.injEq] at hx
      obtain ⟨rfl, rfl⟩ := hx
      simp only [Rows.uptoBulk, bulk_strs]
      omega
def byteIn : Value → Int
  | .int _ b => b
  | _ => 0
theorem opened_dig {W : World} {n : Nat} {cs : List Value} {x : DataW H × List MemPlace} (h : DataW.trod enc Try.prog W 0 (fun _ => true) true n 77 cs = some x) : ∃ ns : List Int, ns.length = 16 ∧ cs = dgCells ns ∧ Bytes8 ns := by
  obtain ⟨xs, m, _, _, hl, hxs, hel⟩ := DataW.trod_array Try.underlying77 h
  have hc5 : Try.prog.cellsOf 5 = 1 := by kernel_rfl
  have hc77 : Try.prog.cellsOf 77 = 16 := by kernel_rfl
  rw [hc77] at hl
  rw [hc5] at hel
  have each : ∀ i, i < 16 → ∃ b : Int, cs[i]? = some (.int .u8 b) ∧ 0 ≤ b ∧ b ≤ 255 := by
    intro i hi
    have h1 := hel i hi
    rw [List.getElem?_eq_getElem (by omega)] at h1
    obtain ⟨b, hb, _, hw⟩ := DataW.trod_int Try.underlying5 h1
    rw [Nat.mul_one] at hb
    have h2 : ((cs.drop i).take 1)[0]? = some (.int .u8 b) := by rw [hb]; rfl
    rw [List.getElem?_take_of_lt (by omega), List.getElem?_drop] at h2
    refine ⟨b, by simpa using h2, ?_⟩
    simp [Lit.wf, IntKind.min, IntKind.max, IntKind.signed, IntKind.bits] at hw
    omega
  refine ⟨(List.range 16).map fun i => byteIn (cs.getD i undef), by simp, ?_, ?_⟩
  · refine List.ext_getElem? fun i => ?_
    by_cases hi : i < 16
    · obtain ⟨b, hb, _⟩ := each i hi
      rw [hb]
      simp [dgCells, encs, hi, List.getD_eq_getElem?_getD, hb, byteIn]
    · rw [List.getElem?_eq_none (by omega), List.getElem?_eq_none (by simp [dgCells, encs]; omega)]
  · intro y hy
    obtain ⟨i, hi, rfl⟩ := List.mem_map.1 hy
    obtain ⟨b, hb, h0, h1⟩ := each i (List.mem_range.1 hi)
    rw [List.getD_eq_getElem?_getD, hb]
    exact ⟨h0, h1⟩
theorem opened_digs {A : Option Addr} {len cap : Nat} {d : DataW H} {p : List MemPlace} {W : World} (h : DataW.Trod enc Try.prog W 0 (fun _ => true) true 24 (.slice A len cap) d p) :
    ∃ l : List (List Int), l.length = len ∧ Kd.C dgK W A l.length l ∧ l.length ≤ cap ∧ (∀ x ∈ l, Bytes8 x) ∧ l.length ≤ Rows.uptoBulk d := by
  obtain ⟨fuel, hf⟩ := h
  rcases Go.Deep.open_slice Try.underlying24 hf with ⟨hcs, _⟩ | ⟨x, l, c, m, n, D, Pl, hcs, _, hl, hm, hmm, hx, hel⟩
  · simp [Value.cells] at hcs
    obtain ⟨rfl, rfl, rfl⟩ := hcs
    exact ⟨[], rfl, ⟨rfl, by simp, fun h => absurd h (by simp)⟩, Nat.le_refl _, by simp, Nat.zero_le _⟩
  · simp [Value.cells] at hcs
    obtain ⟨rfl, rfl, rfl⟩ := hcs
    have hmm' : m = cap := by simpa using hmm
    have hc77 : Try.prog.cellsOf 77 = 16 := by kernel_rfl
    rw [hc77] at hel
    simp only [maxLen] at hm
    have each : ∀ i, i < len → ∃ ns : List Int, ns.length = 16 ∧ Bytes8 ns ∧ ∀ j u, (dgCells ns)[j]? = some u → W.cell? (x.add (i * 16 + j)) = some u := by
      intro i hi
      obtain ⟨cs, hcs, ht⟩ := hel i (by omega)
      obtain ⟨ns, h1, h2, h3⟩ := opened_dig ht
      obtain ⟨_, h5, h6⟩ := World.cells?_some hcs
      refine ⟨ns, h1, h3, fun j u hu => ?_⟩
      have hj : j < 16 := by
        have := (List.getElem?_eq_some_iff.1 hu).1
        rwa [dgCells_length, h1] at this
      have := h6 j hj
      rw [h2, hu] at this
      rw [← this]
      rw [Addr.add_add]
    obtain ⟨F, hF⟩ : ∃ F : Nat → List Int, ∀ i, i < len → (F i).length = 16 ∧ Bytes8 (F i) ∧ ∀ j u, (dgCells (F i))[j]? = some u → W.cell? (x.add (i * 16 + j)) = some u :=
      ⟨fun i => if h : i < len then Classical.choose (each i h) else [], fun i hi => by simp only [dif_pos hi]; exact Classical.choose_spec (each i hi)⟩
    have hlen : ((List.range len).map F).length = len := by simp
    refine ⟨(List.range len).map F, hlen, ⟨rfl, by omega, fun hp => ⟨x, rfl, fun j p hj => ?_⟩⟩, by omega, ?_, ?_⟩
    · have hj' : j < len := by have := (List.getElem?_eq_some_iff.1 hj).1; omega
      obtain ⟨h1, h2, h3⟩ := hF j hj'
      have e : p = F j := by
        rw [List.getElem?_map, List.getElem?_range hj'] at hj
        exact (Option.some.inj hj).symm
      subst e
      refine ⟨dgCells (F j), by rw [dgCells_length, h1]; rfl, ⟨h1, ?_⟩, h3⟩
      refine ⟨by rw [dgCells_length]; exact (Nat.mul_one _).symm, fun i b hb => ?_⟩
      show ((dgCells (F j)).drop (i * 1)).take 1 = [Value.int .u8 b]
      have hbl := (List.getElem?_eq_some_iff.1 hb).1
      rw [Nat.mul_one]
      have e2 : (dgCells (F j))[i]? = some (Value.int .u8 b) := by simp [dgCells, encs, hb]
      rw [List.drop_eq_getElem_cons (by rw [dgCells_length]; exact hbl)]
      simp only [List.take_succ_cons, List.take_zero, List.cons.injEq, and_true]
      exact (List.getElem?_eq_some_iff.1 e2).2
    · intro y hy
      obtain ⟨i, hi, rfl⟩ := List.mem_map.1 hy
      exact (hF i (List.mem_range.1 hi)).2.1
    · have hd : d = DataW.slice ((List.range len).map D) ((List.range (m - len)).map fun j => D (len + j)) := congrArg Prod.fst hx
      rw [hd]
      have h5 := bulk_length (H := H) ((List.range len).map D)
      rw [List.length_map, List.length_range] at h5
      rw [hlen]
      rw [Rows.uptoBulk]
      omega
end Go.Proofs.Ytfngbmcedkncjaa
