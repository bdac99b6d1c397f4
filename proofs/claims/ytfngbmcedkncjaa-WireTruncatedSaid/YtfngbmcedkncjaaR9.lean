/- For every kind of value, each proper beginning of an encoding is refused for want of bytes. -/
import Derived.Test.YtfngbmcedkncjaaRows
import Derived.Test.YtfngbmcedkncjaaRow
import Derived.Test.YtfngbmcedkncjaaHead
import Derived.Test.YtfngbmcedkncjaaOpenS
import Derived.Test.YtfngbmcedkncjaaLaw9
import Derived.SizedLaws
namespace Go.Proofs.Ytfngbmcedkncjaa.wireTruncated
open Go.ChangeShapes Go.WideShapes Go.ChangeAt Go.RowKit Plain
open Go.ChangeMaps (open_string shut_string)
set_option linter.unusedVariables false

set_option maxRecDepth 100000 in
theorem lifted (os : Os) (started : os.Started) (H : Type) (enc : TypeId × Value → H) :
    ReturnsInHanded {} Try.checked os 9 .any (Rows.wireTruncatedSpec.pre6 enc Try.prog Try.f9 Rows.wireTruncatedRow.domain false) (Rows.wireTruncatedSpec.post enc Try.prog Try.f9 false true false false) := by
  refine returnsInHanded_of_change_sized (C := Try.checked) own started (by kernel_rfl) Try.func9
    (ChangeSpec.witness6 (enc := enc) (C := Try.checked) false ⟨#[], #[.int .i64 0, .string ByteArray.empty, .slice none 0 0, .slice none 0 0, .slice none 0 0], []⟩ 8 (by kernel_rfl) (by kernel_rfl) (by kernel_rfl) (by kernel_rfl)) ?_
  intro W base args ds gs before hval0 hW _ hbound _
  have hval : ∀ (j : Nat) t v, Try.f9.params[j]? = some t → args[j]? = some v → Value.okWide Try.prog W .any base t v := hval0
  have hW' := hW
  obtain ⟨p, q, hA0, hV, rfl, hfz, hnd⟩ := hW
  have hA : DataW.TrodAll enc Try.prog W 0 (fun _ => true) true Try.f9.params.toList args.toList ds p := hA0
  rw [Try.params9] at hA hval
  obtain ⟨v0, vs0, d0, ds0, p0, q0, hargs, rfl, rfl, h0, r0⟩ := trodAll_cons hA
  obtain ⟨v1, vs1, d1, ds1, p1, q1, rfl, rfl, rfl, h1, r1⟩ := trodAll_cons r0
  obtain ⟨v2, vs2, d2, ds2, p2, q2, rfl, rfl, rfl, h2, r2⟩ := trodAll_cons r1
  obtain ⟨v3, vs3, d3, ds3, p3, q3, rfl, rfl, rfl, h3, r3⟩ := trodAll_cons r2
  obtain ⟨v4, vs4, d4, ds4, p4, q4, rfl, rfl, rfl, h4, r4⟩ := trodAll_cons r3
  obtain ⟨rfl, rfl, rfl⟩ := trodAll_nil r4
  obtain rfl : args = #[v0, v1, v2, v3, v4] := by cases args; simp_all
  obtain ⟨rfl, rfl⟩ := trodVars_none hV
  rw [Try.params9] at hbound
  have hb : ∀ (j : Nat) t d, (#[3, 9, 22, 23, 24] : Array TypeId).toList[j]? = some t → ([d0, d1, d2, d3, d4] : List (DataW H))[j]? = some d → ∀ x ∈ d.weights Try.prog t, x ≤ reachBytes := by
    intro j t d ht hd x hx
    refine of_decide_eq_true (List.all_eq_true.1 hbound x (DataW.weights_mem_each (j := j) (t := t) (d := d) ?_ ?_ x hx))
    · rw [List.getElem?_append_left (List.getElem?_eq_some_iff.1 ht).1]; exact ht
    · rw [List.getElem?_append_left (List.getElem?_eq_some_iff.1 hd).1]; exact hd
  have b0 := hb 0 3 d0 rfl rfl
  have b1 := hb 1 9 d1 rfl rfl
  have b2 := hb 2 22 d2 rfl rfl
  have b3 := hb 3 23 d3 rfl rfl
  have b4 := hb 4 24 d4 rfl rfl
  clear hb hbound
  obtain ⟨a0, rfl, rfl, rfl, w0⟩ := open_int Try.underlying3 (hval 0 3 v0 rfl rfl) h0
  obtain ⟨a1, rfl, rfl, rfl, w1⟩ := open_string Try.underlying9 (hval 1 9 v1 rfl rfl) h1
  obtain ⟨a2, len2, cap2, rfl⟩ := okWide_slice Try.underlying22 (hval 2 22 v2 rfl rfl)
  have lt2 : ∀ x ∈ p2, x.block < W.heap.size := by obtain ⟨m, hm⟩ := h2; exact DataW.trod_lt m _ _ _ hm
  obtain ⟨l2, e2, hC2, hc2, hw2, hb2⟩ := sized_ints h2
  subst e2
  obtain ⟨a3, len3, cap3, rfl⟩ := okWide_slice Try.underlying23 (hval 3 23 v3 rfl rfl)
  have lt3 : ∀ x ∈ p3, x.block < W.heap.size := by obtain ⟨m, hm⟩ := h3; exact DataW.trod_lt m _ _ _ hm
  obtain ⟨l3, e3, hC3, hc3, hw3, hb3⟩ := sized_strs h3
  subst e3
  obtain ⟨a4, len4, cap4, rfl⟩ := okWide_slice Try.underlying24 (hval 4 24 v4 rfl rfl)
  have lt4 : ∀ x ∈ p4, x.block < W.heap.size := by obtain ⟨m, hm⟩ := h4; exact DataW.trod_lt m _ _ _ hm
  obtain ⟨l4, e4, hC4, hc4, hw4, hb4⟩ := sized_digs h4
  subst e4
  clear hA0 hval0
  have h47 := reachBytes_lt
  have g1 : a1.size ≤ reachBytes := b1 _ (by simp only [DataW.weights, List.mem_singleton]; rfl)
  have g2 := hb2 _ b2
  have g3 := hb3 _ b3
  have g4 := hb4 _ b4
  have hwalk : Calls Try.prog 9 #[.int .i64 a0, .string a1, .slice a2 l2.length cap2, .slice a3 l3.length cap3, .slice a4 l4.length cap4] W fun e w' => e = .returned (.bool true) ∧ Below W.heap.size W w' := by
    have hsum : ∀ l : List ByteArray, (∀ x ∈ l, x.size ≤ reachBytes) → strBytes l ≤ l.length * reachBytes := by
      intro l
      induction l with
      | nil => intro _; simp [strBytes]
      | cons x l ih =>
        intro h
        have e1 := h x (by simp)
        have e2 := ih (fun y hy => h y (by simp [hy]))
        have e3 : strBytes (x :: l) = x.size + strBytes l := by simp [strBytes]
        rw [e3, List.length_cons, Nat.add_mul]
        omega
    have hsum2 := hsum l3 g3
    have hs2 : l3.length ≤ 40 → l3.length + strBytes l3 ≤ 9223372036854775807 := by
      intro h40
      have e := Nat.mul_le_mul_right reachBytes h40
      omega
    exact (law9 a0 (i64_of_wf w0) a1 a2 cap2 l2 a3 cap3 l3 a4 cap4 l4 W hC2 hc2 hw2 hC3 hc3 (fun x hx => Nat.le_trans (g3 x hx) (by omega)) hC4 hc4 hw4 (by omega) hs2).mono fun e w' h => ⟨h.1, h.2.out⟩
  refine hwalk.mono fun e W' ⟨he, bel⟩ => ?_
  subst he
  exact ⟨_, rfl, _, _, _, [], _, [], hW', trodAll_mk1 (shut_bool Try.underlying4 _), (trodAll_cons_mk (shut_int Try.underlying3 w0) (trodAll_cons_mk (shut_string Try.underlying9 w1) (trodAll_cons_mk (Below.trod laidOut (by kernel_rfl) (of_decide_eq_true (by kernel_rfl)) h2 bel lt2) (trodAll_cons_mk (Below.trod laidOut (by kernel_rfl) (of_decide_eq_true (by kernel_rfl)) h3 bel lt3) (trodAll_cons_mk (Below.trod laidOut (by kernel_rfl) (of_decide_eq_true (by kernel_rfl)) h4 bel lt4) trodAll_mk0))))), rfl, bel.frame _, fun h => by cases h⟩

theorem rest_facts : restFacts Try.prog 9 Try.f9 Rows.wireTruncatedSpec Rows.wireTruncatedRow = true := by kernel_rfl
theorem closed : joinedFacts Try.prog 9 Try.f9 Rows.wireTruncatedSpec Rows.wireTruncatedRow = true := closed_of head_enter head_lifts head_make rest_facts rfl rfl

theorem over : Rows.wireTruncatedRow.holds Try.pinned (OpenSpec.ofChange Rows.wireTruncatedSpec) :=
  OpenClaim.holds_of_wide 9 Try.f9 rfl rfl rfl rfl rfl rfl rfl ⟨rfl, rfl, rfl, rfl, rfl⟩ rfl rfl rfl rfl rfl (by kernel_rfl) Try.func9 closed
    (of_decide_eq_true (by kernel_rfl)) (by unfold Func.isWrapper; first | (rw [if_pos (by decide +kernel)]; kernel_rfl) | (rw [if_neg (by decide +kernel)]; exact ⟨rfl, rfl⟩))
    (fun os started H enc _ => lifted os started H enc)

end Go.Proofs.Ytfngbmcedkncjaa.wireTruncated
namespace Go.Proofs.Ytfngbmcedkncjaa
/-- The statement. -/
theorem wireTruncated_holds : Rows.WireTruncatedSaid := wireTruncated.over
#print axioms wireTruncated_holds
end Go.Proofs.Ytfngbmcedkncjaa
