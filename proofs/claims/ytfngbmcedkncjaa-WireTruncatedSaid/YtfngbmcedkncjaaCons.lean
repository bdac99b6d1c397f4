/- consumed (45). -/
import Derived.Test.YtfngbmcedkncjaaCanon
namespace Go.Proofs.Ytfngbmcedkncjaa
open Go.RowKit Go.Proofs.YtfngbmcedkncjaaW.PrintWords Go.Proofs.YtfngbmcedkncjaaW.PrintLast Go.Proofs.YtfngbmcedkncjaaW.PrintMore Plain
attribute [local go_sem] max2_int min2_int max_two min_two max_three min_three max_four min_four
set_option linter.unusedVariables false
set_option linter.unusedSimpArgs false
/-- b[:k] -/
theorem cut_to (A : Option Addr) (n c : Nat) (a : Int) (h0 : 0 ≤ a) (h1 : a ≤ n) (hc : n ≤ c) :
    ∀ W : World, (Instr.slice 28 (.slice A n c) none (some (.int .i64 a)) none).run Try.prog W = .ok (.slice A a.toNat c) W := by
  obtain ⟨i0, hi, hzz⟩ := Option.map_eq_some_iff.1 info5
  simp only [Prod.mk.injEq] at hzz
  intro W
  have hel : Try.prog.elem 28 = 5 := by simp [Program.elem, Try.underlying28]
  have hu : Try.prog.underlying 28 = some (.slice (Try.prog.elem 28)) := by rw [hel]; exact Try.underlying28
  have ha : (A.map fun x => x.add 0) = A := by cases A <;> simp [Addr.add]
  rw [run_slice_h W 28 A n c hu .i64 a h0 (by omega), hel]
  simp [sizeOf, typeInfo, hi, hzz.2.1, sliced, Result.andThen, ha]
set_option maxHeartbeats 1000000 in
set_option maxRecDepth 100000 in
theorem consumed_calls {A A' : Option Addr} {c c' : Nat} {l x : List Int} {u e : Int} {w : World} (hr : Kd.C (Kd.int .u8) w A l.length l) (hc : l.length ≤ c) (hr' : Kd.C (Kd.int .u8) w A' x.length x)
    (h : e ≠ 0 ∨ (0 ≤ u ∧ u ≤ l.length ∧ x = l.take u.toNat)) :
    Calls Try.prog 45 #[.slice A l.length c, .slice A' x.length c', .int .i64 u, .int .i64 e] w fun en w' => en = .returned (.bool true) ∧ Bel w.heap.size w w' := by
  by_cases he : e = 0
  · obtain ⟨h0, h1, h2⟩ : 0 ≤ u ∧ u ≤ l.length ∧ x = l.take u.toNat := by
      rcases h with h | h
      · exact absurd he h
      · exact h
    subst he h2
    have HT := Aside0.mk (Kd.C_take (m := u.toNat) hr (by omega))
    have HX := Aside0.mk hr'
    have hlen : (l.take u.toNat).length = u.toNat := by rw [List.length_take]; omega
    have hm := hr.2.1
    have q1 : (if (l.length : Int) < u then (l.length : Int) else u) = u := if_neg (by omega)
    have q2 : (if (0:Int) < u then u else 0) = u := by split <;> omega
    clear hr hr' h
    generalize l.take u.toNat = x at *
    have HL := Aside0.mk hlen.symm
    clear hlen
    go_enter Try.func45, Try.ntmps45
    go_wp2_with (go_at_call 21; rw [HL.out]; refine (Same_refl HX.out HT.out).mono ?_; rintro e w1 ⟨rfl, HB⟩)
    go_ret
    exact ⟨rfl, HB⟩
  · have hbe : (e != 0) = true := bne_iff_ne.2 he
    clear hr hr' h hc he
    go_enter Try.func45, Try.ntmps45
    go_wp2
    go_ret
    exact ⟨rfl, Bel.refl _⟩
end Go.Proofs.Ytfngbmcedkncjaa
