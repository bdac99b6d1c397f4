/- Slices that came in, opened: integers, bytes, rows of integers. -/
import Derived.Test.YtfngbmcedkncjaaRows
import Derived.Test.YtfngbmcedkncjaaRow
import Derived.Test.YtfngbmcedkncjaaVMns
import Derived.Deep.Matrix
namespace Go.Proofs.Ytfngbmcedkncjaa
open Go.ChangeShapes Go.WideShapes Go.ChangeAt Go.RowKit Go.Proofs.YtfngbmcedkncjaaW.PrintWords Go.Proofs.YtfngbmcedkncjaaW.PrintLast Go.Proofs.YtfngbmcedkncjaaW.PrintMore Plain
set_option linter.unusedVariables false
variable {H : Type} {enc : TypeId × Value → H}
theorem view_ints {A : Option Addr} {len cap : Nat} {d : DataW H} {p : List MemPlace} {W : World} (h : DataW.Trod enc Try.prog W 0 (fun _ => true) true 22 (.slice A len cap) d p) :
    ∃ l : List Int, l.length = len ∧ Kd.C (Kd.int .i64) W A l.length l ∧ l.length ≤ cap ∧ (∀ x ∈ l, I64 x) := by
  obtain ⟨fuel, hf⟩ := h
  rcases open_ints Try.underlying22 Try.underlying3 (by kernel_rfl) hf with ⟨hcs, _⟩ | ⟨x, l, c, zs, hcs, _, hl, hm, hz, hx, hcell, hwz⟩
  · simp [Value.cells] at hcs
    obtain ⟨rfl, rfl, rfl⟩ := hcs
    exact ⟨[], rfl, ⟨rfl, by simp, fun h => absurd h (by simp)⟩, Nat.le_refl _, by simp⟩
  · simp [Value.cells] at hcs
    obtain ⟨rfl, rfl, rfl⟩ := hcs
    have hz' : zs.length = cap := by simpa using hz
    obtain ⟨l, h1, h2, h3, h4, _⟩ := IsRow.reads (.inr ⟨_, rfl, hl, hm, hz', hcell, hwz⟩ : IsRow .i64 W (some x) len cap zs)
    exact ⟨l, h1, h2, h3, fun x hx => i64_of_wf (h4 x hx)⟩
theorem view_bytes {A : Option Addr} {len cap : Nat} {d : DataW H} {p : List MemPlace} {W : World} (h : DataW.Trod enc Try.prog W 0 (fun _ => true) true 28 (.slice A len cap) d p) :
    ∃ l : List Int, l.length = len ∧ Kd.C (Kd.int .u8) W A l.length l ∧ l.length ≤ cap ∧ Bytes8 l := by
  obtain ⟨fuel, hf⟩ := h
  rcases open_ints Try.underlying28 Try.underlying5 (by kernel_rfl) hf with ⟨hcs, _⟩ | ⟨x, l, c, zs, hcs, _, hl, hm, hz, hx, hcell, hwz⟩
  · simp [Value.cells] at hcs
    obtain ⟨rfl, rfl, rfl⟩ := hcs
    exact ⟨[], rfl, ⟨rfl, by simp, fun h => absurd h (by simp)⟩, Nat.le_refl _, fun x hx => by cases hx⟩
  · simp [Value.cells] at hcs
    obtain ⟨rfl, rfl, rfl⟩ := hcs
    have hz' : zs.length = cap := by simpa using hz
    obtain ⟨l, h1, h2, h3, h4, _⟩ := IsRow.reads (.inr ⟨_, rfl, hl, hm, hz', hcell, hwz⟩ : IsRow .u8 W (some x) len cap zs)
    exact ⟨l, h1, h2, h3, bytes8_of_wf h4⟩
theorem view_rows {A : Option Addr} {len cap : Nat} {d : DataW H} {p : List MemPlace} {W : World} (h : DataW.Trod enc Try.prog W 0 (fun _ => true) true 62 (.slice A len cap) d p) :
    ∃ l : List (List Int), l.length = len ∧ Kd.C rowK W A l.length l ∧ l.length ≤ cap ∧ (∀ v ∈ l, ∀ x ∈ v, I64 x) := by
  obtain ⟨fuel, hf⟩ := h
  rcases Go.Deep.open_int_rows Try.underlying62 Try.underlying22 Try.underlying3 (by kernel_rfl) (by kernel_rfl) hf with ⟨hcs, _⟩ | ⟨a, l0, c0, A1, L, C, Z, hcs, _, hl, hm, hx, hr⟩
  · simp [Value.cells] at hcs
    obtain ⟨rfl, rfl, rfl⟩ := hcs
    exact ⟨[], rfl, ⟨rfl, by simp, fun h => absurd h (by simp)⟩, Nat.le_refl _, by simp⟩
  · simp [Value.cells] at hcs
    obtain ⟨rfl, rfl, rfl⟩ := hcs
    simp only [maxLen] at hm hr
    have each : ∀ r, r < len → ∃ z : List Int, z.length = L r ∧ L r ≤ C r ∧ W.cell? (a.add r) = some (.slice (A1 r) (L r) (C r)) ∧ Kd.C (Kd.int .i64) W (A1 r) z.length z ∧ (∀ x ∈ z, I64 x) := by
      intro r hlt
      obtain ⟨h1, h2, h3, h4, h5, h6, h7⟩ := hr r (by omega)
      have hz : ((Z r).take (L r)).length = L r := by rw [List.length_take]; omega
      refine ⟨(Z r).take (L r), hz, h2, h1, Kd.C_of_reads (enc := Value.int .i64) (d := (0 : Int)) ⟨rfl, by omega, fun hp => ?_⟩, fun x hx => i64_of_wf (h5 x (List.mem_of_mem_take hx))⟩
      cases ha : A1 r with
      | none => have := h6 ha; omega
      | some a' =>
        refine ⟨a', rfl, fun j hj => ?_⟩
        rw [(h7 a' ha).2 j (by omega)]
        simp [List.getD_eq_getElem?_getD, show j < L r by omega]
    obtain ⟨F, hF⟩ : ∃ F : Nat → List Int, ∀ r, r < len → (F r).length = L r ∧ L r ≤ C r ∧ W.cell? (a.add r) = some (.slice (A1 r) (L r) (C r)) ∧ Kd.C (Kd.int .i64) W (A1 r) (F r).length (F r) ∧ (∀ x ∈ F r, I64 x) :=
      ⟨fun i => if h : i < len then Classical.choose (each i h) else [], fun i hi => by simp only [dif_pos hi]; exact Classical.choose_spec (each i hi)⟩
    have hlen : ((List.range len).map F).length = len := by simp
    refine ⟨(List.range len).map F, hlen, ⟨rfl, by omega, fun hp => ⟨a, rfl, fun j p hj => ?_⟩⟩, by omega, ?_⟩
    · have hj' : j < len := by have := (List.getElem?_eq_some_iff.1 hj).1; omega
      obtain ⟨h1, h2, h3, h4, h5⟩ := hF j hj'
      have e : p = F j := by
        rw [List.getElem?_map, List.getElem?_range hj'] at hj
        exact (Option.some.inj hj).symm
      subst e
      refine ⟨[.slice (A1 j) (F j).length (C j)], rfl, ⟨A1 j, C j, rfl, by omega, h4⟩, fun i u hu => ?_⟩
      cases i with
      | zero =>
        have e : u = .slice (A1 j) (F j).length (C j) := by simpa using hu.symm
        subst e
        have e2 : j * rowK.sz + 0 = j := by show j * 1 + 0 = j; omega
        rw [e2, h1]
        exact h3
      | succ i => simp at hu
    · intro v hv
      obtain ⟨i, hi, rfl⟩ := List.mem_map.1 hv
      exact (hF i (List.mem_range.1 hi)).2.2.2.2
end Go.Proofs.Ytfngbmcedkncjaa
