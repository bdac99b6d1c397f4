/- Slices that came in, opened, with what the form's own reach bounds. -/
import Derived.Test.YtfngbmcedkncjaaOpen
import Derived.SizedLaws
namespace Go.Proofs.Ytfngbmcedkncjaa
open Go.ChangeShapes Go.WideShapes Go.ChangeAt Go.RowKit Go.Proofs.YtfngbmcedkncjaaW.PrintWords Go.Proofs.YtfngbmcedkncjaaW.PrintLast Go.Proofs.YtfngbmcedkncjaaW.PrintMore Plain
set_option linter.unusedVariables false
variable {H : Type} {enc : TypeId × Value → H}
theorem mem_weightsAll {P : Program} {e : TypeId} {d : DataW H} {n : Nat} (hn : n ∈ d.weights P e) : ∀ {l : List (DataW H)}, d ∈ l → n ∈ DataW.weightsAll P e l
  | x :: r, h => by
    simp only [DataW.weightsAll, List.mem_append]
    rcases List.mem_cons.1 h with rfl | h
    · exact .inl hn
    · exact .inr (mem_weightsAll hn h)
theorem sized_ints {A : Option Addr} {len cap : Nat} {d : DataW H} {p : List MemPlace} {W : World} (h : DataW.Trod enc Try.prog W 0 (fun _ => true) true 22 (.slice A len cap) d p) :
    ∃ l : List Int, l.length = len ∧ Kd.C (Kd.int .i64) W A l.length l ∧ l.length ≤ cap ∧ (∀ x ∈ l, I64 x) ∧ (∀ N, (∀ x ∈ d.weights Try.prog 22, x ≤ N) → l.length ≤ N) := by
  obtain ⟨fuel, hf⟩ := h
  rcases open_ints Try.underlying22 Try.underlying3 (by kernel_rfl) hf with ⟨hcs, _⟩ | ⟨x, l, c, zs, hcs, _, hl, hm, hz, hx, hcell, hwz⟩
  · simp [Value.cells] at hcs
    obtain ⟨rfl, rfl, rfl⟩ := hcs
    exact ⟨[], rfl, ⟨rfl, by simp, fun h => absurd h (by simp)⟩, Nat.le_refl _, by simp, fun _ _ => Nat.zero_le _⟩
  · simp [Value.cells] at hcs
    obtain ⟨rfl, rfl, rfl⟩ := hcs
    have hz' : zs.length = cap := by simpa using hz
    obtain ⟨l, h1, h2, h3, h4, _⟩ := IsRow.reads (.inr ⟨_, rfl, hl, hm, hz', hcell, hwz⟩ : IsRow .i64 W (some x) len cap zs)
    refine ⟨l, h1, h2, h3, fun x hx => i64_of_wf (h4 x hx), ?_⟩
    simp only [Prod.mk.injEq] at hx
    obtain ⟨rfl, rfl⟩ := hx
    intro N hN
    have h6 := hN ((lits (H := H) .i64 (zs.take len)).length.add (lits (H := H) .i64 (zs.drop len)).length * Try.prog.bytesOf 3) (by
      simp only [DataW.weights, Try.underlying22]
      exact List.mem_cons_self ..)
    rw [show Try.prog.bytesOf 3 = 8 from by kernel_rfl] at h6
    simp only [lits, List.length_map, List.length_take, Nat.add_eq] at h6
    omega
theorem sized_strs {A : Option Addr} {len cap : Nat} {d : DataW H} {p : List MemPlace} {W : World} (h : DataW.Trod enc Try.prog W 0 (fun _ => true) true 23 (.slice A len cap) d p) :
    ∃ l : List ByteArray, l.length = len ∧ Kd.C Kd.string W A l.length l ∧ l.length ≤ cap ∧ (∀ x ∈ l, x.size ≤ 9223372036854775807) ∧ (∀ N, (∀ x ∈ d.weights Try.prog 23, x ≤ N) → ∀ x ∈ l, x.size ≤ N) := by
  obtain ⟨fuel, hf⟩ := h
  rcases open_strings Try.underlying23 Try.underlying9 (by kernel_rfl) hf with ⟨hcs, _⟩ | ⟨x, l, c, zs, hcs, _, hl, hm, hz, hx, hcell, hwz⟩
  · simp [Value.cells] at hcs
    obtain ⟨rfl, rfl, rfl⟩ := hcs
    exact ⟨[], rfl, ⟨rfl, by simp, fun h => absurd h (by simp)⟩, Nat.le_refl _, by simp, fun _ _ x hx => by cases hx⟩
  · simp [Value.cells] at hcs
    obtain ⟨rfl, rfl, rfl⟩ := hcs
    have hz' : zs.length = cap := by simpa using hz
    simp only [maxLen] at hm hwz
    have hlen : (zs.take len).length = len := by rw [List.length_take]; omega
    refine ⟨zs.take len, hlen, Kd.C_of_reads (enc := Value.string) (d := ByteArray.empty) ⟨rfl, by omega, fun hp => ⟨x, rfl, fun j hj => ?_⟩⟩, by omega, fun s hs => hwz s (List.mem_of_mem_take hs), ?_⟩
    · rw [hcell j (by omega)]
      simp [List.getD_eq_getElem?_getD, show j < len by omega]
    · simp only [Prod.mk.injEq] at hx
      obtain ⟨rfl, rfl⟩ := hx
      intro N hN y hy
      refine hN y.size ?_
      simp only [DataW.weights, Try.underlying23]
      refine List.mem_cons_of_mem _ (List.mem_append_left _ ?_)
      refine mem_weightsAll (d := .lit (.string y.data.toList)) ?_ ?_
      · simp only [DataW.weights, List.mem_singleton]
        rfl
      · exact List.mem_map.2 ⟨y, hy, rfl⟩
theorem sized_digs {A : Option Addr} {len cap : Nat} {d : DataW H} {p : List MemPlace} {W : World} (h : DataW.Trod enc Try.prog W 0 (fun _ => true) true 24 (.slice A len cap) d p) :
    ∃ l : List (List Int), l.length = len ∧ Kd.C dgK W A l.length l ∧ l.length ≤ cap ∧ (∀ x ∈ l, Bytes8 x) ∧ (∀ N, (∀ x ∈ d.weights Try.prog 24, x ≤ N) → l.length ≤ N) := by
  obtain ⟨fuel, hf⟩ := h
  rcases Go.Deep.open_slice Try.underlying24 hf with ⟨hcs, _⟩ | ⟨x, l, c, m, n, D, Pl, hcs, _, hl, hm, hmm, hx, hel⟩
  · simp [Value.cells] at hcs
    obtain ⟨rfl, rfl, rfl⟩ := hcs
    exact ⟨[], rfl, ⟨rfl, by simp, fun h => absurd h (by simp)⟩, Nat.le_refl _, by simp, fun _ _ => Nat.zero_le _⟩
  · simp [Value.cells] at hcs
    obtain ⟨rfl, rfl, rfl⟩ := hcs
    have hmm' : m = cap := by simpa using hmm
    have hc77 : Try.prog.cellsOf 77 = 16 := by kernel_rfl
    rw [hc77] at hel
    simp only [maxLen] at hm
    have each : ∀ i, i < len → ∃ ns : List Int, ns.length = 16 ∧ Bytes8 ns ∧ ∀ j u, (dgCells ns)[j]? = some u → W.cell? (x.add (i * 16 + j)) = some u := by
      intro i hi
      obtain ⟨cs, hcs, ht⟩ := hel i (by omega)
      obtain ⟨ns, h1, h2, h3⟩ := opened_dig ht
      obtain ⟨_, h5, h6⟩ := World.cells?_some hcs
      refine ⟨ns, h1, h3, fun j u hu => ?_⟩
      have hj : j < 16 := by
        have := (List.getElem?_eq_some_iff.1 hu).1
        rwa [dgCells_length, h1] at this
      have := h6 j hj
      rw [h2, hu] at this
      rw [← this]
      rw [Addr.add_add]
    obtain ⟨F, hF⟩ : ∃ F : Nat → List Int, ∀ i, i < len → (F i).length = 16 ∧ Bytes8 (F i) ∧ ∀ j u, (dgCells (F i))[j]? = some u → W.cell? (x.add (i * 16 + j)) = some u :=
      ⟨fun i => if h : i < len then Classical.choose (each i h) else [], fun i hi => by simp only [dif_pos hi]; exact Classical.choose_spec (each i hi)⟩
    have hlen : ((List.range len).map F).length = len := by simp
    refine ⟨(List.range len).map F, hlen, ⟨rfl, by omega, fun hp => ⟨x, rfl, fun j p hj => ?_⟩⟩, by omega, ?_, ?_⟩
    · have hj' : j < len := by have := (List.getElem?_eq_some_iff.1 hj).1; omega
      obtain ⟨h1, h2, h3⟩ := hF j hj'
      have e : p = F j := by
        rw [List.getElem?_map, List.getElem?_range hj'] at hj
        exact (Option.some.inj hj).symm
      subst e
      refine ⟨dgCells (F j), by rw [dgCells_length, h1]; rfl, ⟨h1, ?_⟩, h3⟩
      refine ⟨by rw [dgCells_length]; exact (Nat.mul_one _).symm, fun i b hb => ?_⟩
      show ((dgCells (F j)).drop (i * 1)).take 1 = [Value.int .u8 b]
      have hbl := (List.getElem?_eq_some_iff.1 hb).1
      rw [Nat.mul_one]
      have e2 : (dgCells (F j))[i]? = some (Value.int .u8 b) := by simp [dgCells, encs, hb]
      rw [List.drop_eq_getElem_cons (by rw [dgCells_length]; exact hbl)]
      simp only [List.take_succ_cons, List.take_zero, List.cons.injEq, and_true]
      exact (List.getElem?_eq_some_iff.1 e2).2
    · intro y hy
      obtain ⟨i, hi, rfl⟩ := List.mem_map.1 hy
      exact (hF i (List.mem_range.1 hi)).2.1
    · have hd : d = DataW.slice ((List.range len).map D) ((List.range (m - len)).map fun j => D (len + j)) := congrArg Prod.fst hx
      rw [hd]
      intro N hN
      have h6 := hN (((List.range len).map D).length.add ((List.range (m - len)).map fun j => D (len + j)).length * Try.prog.bytesOf 77) (by
        simp only [DataW.weights, Try.underlying24]
        exact List.mem_cons_self ..)
      rw [show Try.prog.bytesOf 77 = 16 from by kernel_rfl] at h6
      simp only [List.length_map, List.length_range, Nat.add_eq] at h6
      rw [hlen]
      omega
end Go.Proofs.Ytfngbmcedkncjaa
