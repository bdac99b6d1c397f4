/- For every difference and metric, Norm, and Dot of it and itself, return what the specification returns; for at most 20 vectors that are alike so does Mean, whatever the input, in whatever memory. -/
import Derived.Test.YtfngbmcedkncjaaRows
import Derived.Test.YtfngbmcedkncjaaRow
import Derived.Test.YtfngbmcedkncjaaHead
import Derived.Test.YtfngbmcedkncjaaVOpn
import Derived.Test.YtfngbmcedkncjaaL12
namespace Go.Proofs.Ytfngbmcedkncjaa.vectorNormsAsSpecified
open Go.ChangeShapes Go.WideShapes Go.ChangeAt Go.RowKit Plain
open Go.ChangeMaps (open_string shut_string)
set_option linter.unusedVariables false

set_option maxRecDepth 100000 in
theorem lifted (os : Os) (started : os.Started) (H : Type) (enc : TypeId × Value → H) :
    ReturnsInHanded {} Try.checked os 12 .any (Rows.vectorNormsAsSpecifiedSpec.pre6 enc Try.prog Try.f12 Rows.vectorNormsAsSpecifiedRow.domain false) (Rows.vectorNormsAsSpecifiedSpec.post enc Try.prog Try.f12 false true false false) := by
  refine returnsInHanded_of_change (C := Try.checked) own started (by kernel_rfl) Try.func12
    (ChangeSpec.witness6 (enc := enc) (C := Try.checked) false ⟨#[], #[.int .i64 0, .slice none 0 0, .slice none 0 0], []⟩ 8 (by kernel_rfl) (by kernel_rfl) (by kernel_rfl) (by kernel_rfl)) ?_
  intro W base args ds gs before hval0 hW _ _
  have hval : ∀ (j : Nat) t v, Try.f12.params[j]? = some t → args[j]? = some v → Value.okWide Try.prog W .any base t v := hval0
  have hW' := hW
  obtain ⟨p, q, hA0, hV, rfl, hfz, hnd⟩ := hW
  have hA : DataW.TrodAll enc Try.prog W 0 (fun _ => true) true Try.f12.params.toList args.toList ds p := hA0
  rw [Try.params12] at hA hval
  obtain ⟨v0, vs0, d0, ds0, p0, q0, hargs, rfl, rfl, h0, r0⟩ := trodAll_cons hA
  obtain ⟨v1, vs1, d1, ds1, p1, q1, rfl, rfl, rfl, h1, r1⟩ := trodAll_cons r0
  obtain ⟨v2, vs2, d2, ds2, p2, q2, rfl, rfl, rfl, h2, r2⟩ := trodAll_cons r1
  obtain ⟨rfl, rfl, rfl⟩ := trodAll_nil r2
  obtain rfl : args = #[v0, v1, v2] := by cases args; simp_all
  obtain ⟨rfl, rfl⟩ := trodVars_none hV
  obtain ⟨a0, rfl, rfl, rfl, w0⟩ := open_int Try.underlying3 (hval 0 3 v0 rfl rfl) h0
  obtain ⟨a1, len1, cap1, rfl⟩ := okWide_slice Try.underlying22 (hval 1 22 v1 rfl rfl)
  have lt1 : ∀ x ∈ p1, x.block < W.heap.size := by obtain ⟨m, hm⟩ := h1; exact DataW.trod_lt m _ _ _ hm
  obtain ⟨l1, e1, hC1, hc1, hw1⟩ := view_ints h1
  subst e1
  obtain ⟨a2, len2, cap2, rfl⟩ := okWide_slice Try.underlying62 (hval 2 62 v2 rfl rfl)
  have lt2 : ∀ x ∈ p2, x.block < W.heap.size := by obtain ⟨m, hm⟩ := h2; exact DataW.trod_lt m _ _ _ hm
  obtain ⟨l2, e2, hC2, hc2, hw2⟩ := view_rows h2
  subst e2
  clear hA0 hval0
  have hwalk : Calls Try.prog 12 #[.int .i64 a0, .slice a1 l1.length cap1, .slice a2 l2.length cap2] W fun e w' => e = .returned (.bool true) ∧ Below W.heap.size W w' := by
    exact (law12 a0 a1 a2 cap1 cap2 l1 l2 W hC1 hC2).mono fun e w' h => ⟨h.1, h.2.out⟩
  refine hwalk.mono fun e W' ⟨he, bel⟩ => ?_
  subst he
  exact ⟨_, rfl, _, _, _, [], _, [], hW', trodAll_mk1 (shut_bool Try.underlying4 _), (trodAll_cons_mk (shut_int Try.underlying3 w0) (trodAll_cons_mk (Below.trod laidOut (by kernel_rfl) (of_decide_eq_true (by kernel_rfl)) h1 bel lt1) (trodAll_cons_mk (Below.trod laidOut (by kernel_rfl) (of_decide_eq_true (by kernel_rfl)) h2 bel lt2) trodAll_mk0))), rfl, bel.frame _, fun h => by cases h⟩

theorem rest_facts : restFacts Try.prog 12 Try.f12 Rows.vectorNormsAsSpecifiedSpec Rows.vectorNormsAsSpecifiedRow = true := by kernel_rfl
theorem closed : joinedFacts Try.prog 12 Try.f12 Rows.vectorNormsAsSpecifiedSpec Rows.vectorNormsAsSpecifiedRow = true := closed_of head_enter head_lifts head_make rest_facts rfl rfl

theorem over : Rows.vectorNormsAsSpecifiedRow.holds Try.pinned (OpenSpec.ofChange Rows.vectorNormsAsSpecifiedSpec) :=
  OpenClaim.holds_of_wide 12 Try.f12 rfl rfl rfl rfl rfl rfl rfl ⟨rfl, rfl, rfl, rfl, rfl⟩ rfl rfl rfl rfl rfl (by kernel_rfl) Try.func12 closed
    (of_decide_eq_true (by kernel_rfl)) (by unfold Func.isWrapper; first | (rw [if_pos (by decide +kernel)]; kernel_rfl) | (rw [if_neg (by decide +kernel)]; exact ⟨rfl, rfl⟩))
    (fun os started H enc _ => lifted os started H enc)

end Go.Proofs.Ytfngbmcedkncjaa.vectorNormsAsSpecified
namespace Go.Proofs.Ytfngbmcedkncjaa
/-- The statement. -/
theorem vectorNormsAsSpecified_holds : Rows.VectorNormsAsSpecifiedSaid := vectorNormsAsSpecified.over
#print axioms vectorNormsAsSpecified_holds
end Go.Proofs.Ytfngbmcedkncjaa
