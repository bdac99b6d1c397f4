/- A []byte that came in, opened; what its bulk bounds. -/
import Derived.Test.YtfngbmcedkncjaaOpen
namespace Go.Proofs.Ytfngbmcedkncjaa
open Go.ChangeShapes Go.WideShapes Go.ChangeAt Go.RowKit Go.Proofs.YtfngbmcedkncjaaW.PrintWords Go.Proofs.YtfngbmcedkncjaaW.PrintLast Go.Proofs.YtfngbmcedkncjaaW.PrintMore Plain
set_option linter.unusedVariables false
variable {H : Type} {enc : TypeId × Value → H}
theorem opened_bytes {A : Option Addr} {len cap : Nat} {d : DataW H} {p : List MemPlace} {W : World} (h : DataW.Trod enc Try.prog W 0 (fun _ => true) true 28 (.slice A len cap) d p) :
    ∃ l : List Int, l.length = len ∧ Kd.C (Kd.int .u8) W A l.length l ∧ l.length ≤ cap ∧ Bytes8 l ∧ l.length ≤ Rows.uptoBulk d := by
  obtain ⟨fuel, hf⟩ := h
  rcases open_ints Try.underlying28 Try.underlying5 (by kernel_rfl) hf with ⟨hcs, _⟩ | ⟨x, l, c, zs, hcs, _, hl, hm, hz, hx, hcell, hwz⟩
  · simp [Value.cells] at hcs
    obtain ⟨rfl, rfl, rfl⟩ := hcs
    exact ⟨[], rfl, ⟨rfl, by simp, fun h => absurd h (by simp)⟩, Nat.le_refl _, (fun x hx => by cases hx), Nat.zero_le _⟩
  · simp [Value.cells] at hcs
    obtain ⟨rfl, rfl, rfl⟩ := hcs
    have hz' : zs.length = cap := by simpa using hz
    obtain ⟨l, h1, h2, h3, h4, _⟩ := IsRow.reads (.inr ⟨_, rfl, hl, hm, hz', hcell, hwz⟩ : IsRow .u8 W (some x) len cap zs)
    refine ⟨l, h1, h2, h3, bytes8_of_wf h4, ?_⟩
    simp only [Prod.mk.injEq] at hx
    obtain ⟨rfl, rfl⟩ := hx
    simp only [Rows.uptoBulk]
    have h5 := bulk_length (H := H) (lits .u8 (zs.take len))
    simp only [lits, List.length_map, List.length_take] at h5
    simp only [lits]
    omega
end Go.Proofs.Ytfngbmcedkncjaa
