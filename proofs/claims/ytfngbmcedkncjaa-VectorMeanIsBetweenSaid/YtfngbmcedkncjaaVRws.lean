/- Rows of rows as headers: cut, appended, laid out anew. -/
import Derived.Test.YtfngbmcedkncjaaVSane
namespace Go.Proofs.Ytfngbmcedkncjaa
open Go.RowKit Go.Proofs.YtfngbmcedkncjaaW.PrintWords Go.Proofs.YtfngbmcedkncjaaW.PrintLast Go.Proofs.YtfngbmcedkncjaaW.PrintMore Plain
set_option linter.unusedVariables false
set_option linter.unusedSimpArgs false
/-- A slice's header. -/
abbrev Hdr := Option Addr × Nat × Nat
def hdr (h : Hdr) : Value := .slice h.1 h.2.1 h.2.2
theorem hdr_one : ∀ h : Hdr, (hdr h).oneCell' = true := fun _ => rfl
abbrev hdrK : Kd Hdr := Kd.scalar hdr hdr_one
/-- A header and the row that it reads. -/
def HQ (w : World) (p : Hdr × List Int) : Prop := p.1.2.1 = p.2.length ∧ p.2.length ≤ p.1.2.2 ∧ Kd.C (Kd.int .i64) w p.1.1 p.2.length p.2
theorem HQ.below {w w1 : World} {p : Hdr × List Int} (h : HQ w p) (hb : Below w.heap.size w w1) : HQ w1 p := ⟨h.1, h.2.1, Kd.C_below h.2.2 hb⟩
theorem heads {l : List (List Int)} {w : World} {A : Option Addr} (h : Kd.C rowK w A l.length l) :
    ∃ ps : List (Hdr × List Int), ps.map Prod.snd = l ∧ Kd.C hdrK w A (ps.map Prod.fst).length (ps.map Prod.fst) ∧ ∀ p ∈ ps, HQ w p := by
  have each : ∀ j, j < l.length → ∃ hd : Hdr, (∃ ad, A = some ad ∧ w.cell? (ad.add j) = some (hdr hd)) ∧ HQ w (hd, rw_ l j) := by
    intro j hj
    obtain ⟨ad, A1, c1, e, h1, h2, h3⟩ := row_at h j hj
    exact ⟨(A1, (rw_ l j).length, c1), ⟨ad, e, h2⟩, rfl, h1, h3⟩
  obtain ⟨F, hF⟩ : ∃ F : Nat → Hdr, ∀ j, j < l.length → (∃ ad, A = some ad ∧ w.cell? (ad.add j) = some (hdr (F j))) ∧ HQ w (F j, rw_ l j) :=
    ⟨fun j => if h : j < l.length then Classical.choose (each j h) else (none, 0, 0), fun j hj => by simp only [dif_pos hj]; exact Classical.choose_spec (each j hj)⟩
  refine ⟨(List.range l.length).map fun j => (F j, rw_ l j), ?_, ?_, ?_⟩
  · apply List.ext_getElem
    · simp
    · intro j h1 h2
      simp [rw_, List.getD_eq_getElem?_getD, h2]
  · refine Kd.C_of_reads (enc := hdr) (d := ((none, 0, 0) : Hdr)) ⟨rfl, by simpa using h.2.1, fun hp => ?_⟩
    simp only [List.length_map, List.length_range] at hp
    obtain ⟨⟨ad, e, _⟩, _⟩ := hF 0 (by omega)
    refine ⟨ad, e, fun j hj => ?_⟩
    simp only [List.length_map, List.length_range] at hj
    obtain ⟨⟨ad', e', hc⟩, _⟩ := hF j hj
    rw [e] at e'
    cases e'
    rw [hc]
    simp [List.getD_eq_getElem?_getD, hj]
  · intro p hp
    obtain ⟨j, hj, rfl⟩ := List.mem_map.1 hp
    exact (hF j (List.mem_range.1 hj)).2
theorem unheads {ps : List (Hdr × List Int)} {w : World} {A : Option Addr} (h : Kd.C hdrK w A (ps.map Prod.fst).length (ps.map Prod.fst)) (hq : ∀ p ∈ ps, HQ w p) : Kd.C rowK w A (ps.map Prod.snd).length (ps.map Prod.snd) := by
  refine ⟨rfl, by have := h.2.1; simpa using this, fun hp => ?_⟩
  simp only [List.length_map] at hp
  obtain ⟨ad, rfl, hr⟩ := Kd.reads_of_C (enc := hdr) (d := ((none, 0, 0) : Hdr)) h |>.2.2 (by simpa using hp)
  refine ⟨ad, rfl, fun j p hj => ?_⟩
  have hlt : j < ps.length := by have := (List.getElem?_eq_some_iff.1 hj).1; simpa using this
  have e : p = ps[j].2 := by
    rw [List.getElem?_map, List.getElem?_eq_getElem hlt] at hj
    exact (Option.some.inj hj).symm
  subst e
  obtain ⟨h1, h2, h3⟩ := hq _ (List.getElem_mem hlt)
  refine ⟨[hdr ps[j].1], rfl, ⟨ps[j].1.1, ps[j].1.2.2, by unfold hdr; rw [h1], h2, h3⟩, fun i u hu => ?_⟩
  cases i with
  | zero =>
    have e : u = hdr ps[j].1 := by simpa using hu.symm
    subst e
    have e2 : j * rowK.sz + 0 = j := by show j * 1 + 0 = j; omega
    rw [e2, hr j (by simpa using hlt)]
    simp [List.getD_eq_getElem?_getD, hlt]
  | succ i => simp at hu
theorem info22 : (Try.prog.info? 22).map (fun i => (i.zero, i.size, i.bytes)) = some (some (.slice none 0 0), 1, 24) := by kernel_rfl
theorem ty_row : Ty 1 62 22 (.slice none 0 0) 24 := ⟨Try.underlying62, info22, rfl, by decide, by decide⟩
theorem own_emptyH (w : World) : Own hdrK 22 w.heap.size (w.alloc (.cells #[] 22)) (.slice (some ⟨w.heap.size, 0, none⟩) 0 0) [] :=
  ⟨Kd.R_of_own (xs := []) (World.ownsRow_lit (base := w.heap.size) (e := 22) (size := 1) w #[] 0 (Nat.le_refl _) (by simp [maxLen]) rfl) (fun _ _ => trivial)⟩
section
variable {α : Type} {ops : Array Oper} {o : Oper} {a : Act} {Q : Exit → Act → World → Prop} {Kc : Act → World → Prop}
/-- append(v, ys...) as the step of a region that draws its order; elements of one cell. -/
theorem ap_rows_step (enc : α → Value) {h1 : ∀ x : α, (enc x).oneCell' = true} {w W : World} {t e : TypeId} {z : Value} {bytes : Nat} (T : Ty 1 t e z bytes) {v : Value} {xs ys : List α} {A : Option Addr} {m c : Nat}
    (HO : Own (Kd.scalar enc h1) e w.heap.size W v xs) (HB : Bel w.heap.size w W) (HR : (Kd.scalar enc h1).C W A m ys) (hl : (xs.length + m) * bytes ≤ 140737488355328) (hw : Region.wanted o (yielded ops a.tmps) = true) {s x : Operand}
    (ho : o.op = .call { callee := .builtin .append, args := #[s, x], argTypes := #[t, t] })
    (hs : a.eval s = v) (hx : a.eval x = .slice A m c)
    (h : ∀ v1 w1, Own (Kd.scalar enc h1) e w.heap.size w1 v1 (xs ++ ys) → Bel w.heap.size w w1 → Kc (a.put o.dst v1) w1) :
    if Region.wanted o (yielded ops a.tmps) = true then Oper.wp Try.prog o a W Kc Q else Kc (a.put o.dst undef) W :=
  Kd.R_append_rows_step (Kd.scalar enc h1) (Rr := fun x cs => cs = [enc x]) (w0 := w) w.heap.size hw s x t e z bytes ho T.ht T.hinfo T.hz T.hs T.hb v xs ys A m c (fun _ => True) (fun _ => False) hs hx HO.out HR (fun _ _ h => h) (fun _ hk => hk.elim) (fun _ _ => trivial) HB.out HB.size hl
    fun v1 w1 k1 k2 _ _ => h v1 w1 ⟨k1⟩ ⟨k2⟩
end
end Go.Proofs.Ytfngbmcedkncjaa
