/- Calls on literals: what the laws' own examples hand over. -/
import Derived.Test.YtfngbmcedkncjaaSame
import Derived.Test.YtfngbmcedkncjaaDec
import Derived.Test.YtfngbmcedkncjaaEnc
namespace Go.Proofs.Ytfngbmcedkncjaa
open Go.RowKit Go.Proofs.YtfngbmcedkncjaaW.PrintWords Go.Proofs.YtfngbmcedkncjaaW.PrintLast Go.Proofs.YtfngbmcedkncjaaW.PrintMore Plain
set_option linter.unusedVariables false
set_option linter.unusedSimpArgs false

/-- The block of a literal of elements of one cell. -/
abbrev lit {α : Type} (enc : α → Value) (t : TypeId) (xs : List α) : Obj := .cells (xs.map enc).toArray t
theorem C_lit {α : Type} (enc : α → Value) {h1 : ∀ x : α, (enc x).oneCell' = true} (t : TypeId) (xs : List α) (W : World) (hn : xs.length ≤ 9223372036854775807) : Kd.C (Kd.scalar enc h1) (W.alloc (lit enc t xs)) (some ⟨W.heap.size, 0, none⟩) xs.length xs := by
  refine ⟨rfl, hn, fun hp => ⟨_, rfl, fun j p hj => ⟨[enc p], rfl, rfl, fun i u hu => ?_⟩⟩⟩
  cases i with
  | zero =>
    have e : u = enc p := by simpa using hu.symm
    subst e
    refine new_cells W (xs.map enc) t _ _ ?_
    simp [Kd.scalar, hj]
  | succ i => simp at hu
theorem bel_lit {α : Type} {enc : α → Value} {t : TypeId} {xs : List α} {W w1 : World} (h : Bel (W.alloc (lit enc t xs)).heap.size (W.alloc (lit enc t xs)) w1) : Bel W.heap.size W w1 := ((Bel.refl W).alloc _).trans h
theorem own_lit' {α β : Type} {enc : α → Value} {t : TypeId} {xs : List α} {d : Kd β} {e : TypeId} {W w1 : World} {v : Value} {ys : List β} (h : Own d e (W.alloc (lit enc t xs)).heap.size w1 v ys) : Own d e W.heap.size w1 v ys := h.lower (by simp)

theorem GetInt_lit (xs : List Int) (t : Int × Int × Int) (hb : Bytes8 xs) (hn : xs.length ≤ 1000) (ht : dInt xs = t) (W : World) :
    Calls Try.prog 32 #[.slice (some ⟨W.heap.size, 0, none⟩) xs.length xs.length] (W.alloc (lit (Value.int .u8) 5 xs)) fun e w' => e = .returned (.tuple #[.int .i64 t.1, .int .i64 t.2.1, .int .i64 t.2.2]) ∧ Bel W.heap.size W w' := by
  subst ht
  refine (GetInt_calls _ _ xs _ (C_lit _ _ xs W (by omega)) (Nat.le_refl _) hb).mono ?_
  rintro e w' ⟨rfl, rfl⟩
  exact ⟨rfl, (Bel.refl W).alloc _⟩
theorem GetBytes_lit (xs : List Int) (t : ByteArray × Int × Int) (hb : Bytes8 xs) (hn : xs.length ≤ 1000) (ht : dBytes xs = t) (W : World) :
    Calls Try.prog 34 #[.slice (some ⟨W.heap.size, 0, none⟩) xs.length xs.length] (W.alloc (lit (Value.int .u8) 5 xs)) fun e w' => e = .returned (.tuple #[.string t.1, .int .i64 t.2.1, .int .i64 t.2.2]) ∧ Bel W.heap.size W w' := by
  subst ht
  refine (GetBytes_calls _ _ xs _ (C_lit _ _ xs W (by omega)) (Nat.le_refl _) hb (by omega)).mono ?_
  rintro e w' ⟨rfl, rfl⟩
  exact ⟨rfl, (Bel.refl W).alloc _⟩
theorem gave_lit {α β : Type} {enc : α → Value} {ty : TypeId} {xs : List α} {d : Kd β} {e : TypeId} {W w1 : World} {t : List β × Int × Int} {en : Ending} (h : Gave d e (W.alloc (lit enc ty xs)).heap.size (W.alloc (lit enc ty xs)) w1 t en) : Gave d e W.heap.size W w1 t en := by
  obtain ⟨v, he, ho, hb⟩ := h
  exact ⟨v, he, own_lit' ho, bel_lit hb⟩
theorem GetInts_lit (xs : List Int) (t : List Int × Int × Int) (hb : Bytes8 xs) (hn : xs.length ≤ 1000) (ht : dInts xs = t) (W : World) :
    Calls Try.prog 36 #[.slice (some ⟨W.heap.size, 0, none⟩) xs.length xs.length] (W.alloc (lit (Value.int .u8) 5 xs)) fun e w' => Gave (Kd.int .i64) 3 W.heap.size W w' t e := by
  subst ht
  exact (GetInts_calls _ _ xs _ (C_lit _ _ xs W (by omega)) (Nat.le_refl _) hb (by omega)).mono fun e w' h => gave_lit h
theorem GetStrings_lit (xs : List Int) (t : List ByteArray × Int × Int) (hb : Bytes8 xs) (hn : xs.length ≤ 1000) (ht : dStrs xs = t) (W : World) :
    Calls Try.prog 39 #[.slice (some ⟨W.heap.size, 0, none⟩) xs.length xs.length] (W.alloc (lit (Value.int .u8) 5 xs)) fun e w' => Gave Kd.string 9 W.heap.size W w' t e := by
  subst ht
  exact (GetStrings_calls _ _ xs _ (C_lit _ _ xs W (by omega)) (Nat.le_refl _) hb (by omega)).mono fun e w' h => gave_lit h
theorem Strings_lit (xs : List ByteArray) (t : List Int) (hn : xs.length ≤ 1000) (hl : (xs.flatMap eBytes).length ≤ 1000) (ht : eStrs xs = t) (W : World) :
    Calls Try.prog 28 #[.slice (some ⟨W.heap.size, 0, none⟩) xs.length xs.length] (W.alloc (lit Value.string 9 xs)) fun e w' => ∃ v, e = .returned v ∧ Own (Kd.int .u8) 5 W.heap.size w' v t ∧ Bel W.heap.size W w' := by
  subst ht
  refine (Strings_calls _ _ xs _ (C_lit _ _ xs W (by omega)) (Nat.le_refl _) (by omega) (by omega)).mono ?_
  rintro e w' ⟨v, rfl, ho, hb⟩
  exact ⟨v, rfl, own_lit' ho, bel_lit hb⟩
theorem Ints_lit (xs : List Int) (t : List Int) (hw : ∀ x ∈ xs, I64 x) (hn : xs.length ≤ 1000) (ht : eInts xs = t) (W : World) :
    Calls Try.prog 26 #[.slice (some ⟨W.heap.size, 0, none⟩) xs.length xs.length] (W.alloc (lit (Value.int .i64) 3 xs)) fun e w' => ∃ v, e = .returned v ∧ Own (Kd.int .u8) 5 W.heap.size w' v t ∧ Bel W.heap.size W w' := by
  subst ht
  refine (Ints_calls _ _ xs _ (C_lit _ _ xs W (by omega)) (Nat.le_refl _) hw (by omega)).mono ?_
  rintro e w' ⟨v, rfl, ho, hb⟩
  exact ⟨v, rfl, own_lit' ho, bel_lit hb⟩
theorem Same_lit (ys : List Int) (hb : Bytes8 ys) (hn : ys.length ≤ 1000) {A : Option Addr} {c : Nat} {W : World} (hr : Kd.C (Kd.int .u8) W A ys.length ys) :
    Calls Try.prog 21 #[.slice A ys.length c, .slice (some ⟨W.heap.size, 0, none⟩) ys.length ys.length] (W.alloc (lit (Value.int .u8) 5 ys)) fun e w' => e = .returned (.bool true) ∧ Bel W.heap.size W w' := by
  refine (Same_calls _ _ _ _ ys ys _ (Kd.C_alloc hr _) (C_lit _ _ ys W (by omega)) hb hb).mono ?_
  rintro e w' ⟨rfl, h⟩
  exact ⟨by simp, ((Bel.refl W).alloc _).drawn h⟩
theorem SameInts_lit (ys : List Int) (hn : ys.length ≤ 1000) {A : Option Addr} {c : Nat} {W : World} (hr : Kd.C (Kd.int .i64) W A ys.length ys) :
    Calls Try.prog 38 #[.slice A ys.length c, .slice (some ⟨W.heap.size, 0, none⟩) ys.length ys.length] (W.alloc (lit (Value.int .i64) 3 ys)) fun e w' => e = .returned (.bool true) ∧ Bel W.heap.size W w' := by
  refine (SameInts_calls _ _ _ _ ys ys _ (Kd.C_alloc hr _) (C_lit _ _ ys W (by omega)) (by omega) (by omega)).mono ?_
  rintro e w' ⟨rfl, h⟩
  exact ⟨by simp, ((Bel.refl W).alloc _).drawn h⟩
theorem SameTexts_lit (ys : List ByteArray) (hn : ys.length ≤ 1000) {A : Option Addr} {c : Nat} {W : World} (hr : Kd.C Kd.string W A ys.length ys) :
    Calls Try.prog 41 #[.slice A ys.length c, .slice (some ⟨W.heap.size, 0, none⟩) ys.length ys.length] (W.alloc (lit Value.string 9 ys)) fun e w' => e = .returned (.bool true) ∧ Bel W.heap.size W w' := by
  refine (SameTexts_calls _ _ _ _ ys ys _ (Kd.C_alloc hr _) (C_lit _ _ ys W (by omega)) (by omega) (by omega)).mono ?_
  rintro e w' ⟨rfl, h⟩
  exact ⟨by simp, ((Bel.refl W).alloc _).drawn h⟩
/-- One digest as a literal. -/
theorem C_dig1 (x : List Int) (hx : x.length = 16) (W : World) : Kd.C dgK (W.alloc (.cells (dgCells x).toArray 77)) (some ⟨W.heap.size, 0, none⟩) 1 [x] := by
  refine ⟨rfl, by omega, fun _ => ⟨_, rfl, fun j p hj => ?_⟩⟩
  cases j with
  | zero =>
    have e : x = p := by simpa using hj
    subst e
    refine ⟨dgCells x, by rw [dgCells_length, hx]; rfl, dgK.K_of_M (base := 0) (ok := fun _ => True) (Kd.arr_of_cells hx), fun i u hu => ?_⟩
    rw [Nat.zero_mul, Nat.zero_add]
    exact new_cells W (dgCells x) 77 i u hu
  | succ j => simp at hj
theorem Digests_lit (x : List Int) (hx : x.length = 16) (W : World) {n : Nat} (hn : n = W.heap.size) :
    Calls Try.prog 30 #[.slice (some ⟨n, 0, none⟩) 1 1] (W.alloc (.cells (dgCells x).toArray 77)) fun e w' => ∃ v, e = .returned v ∧ Own (Kd.int .u8) 5 W.heap.size w' v (eDigs [x]) ∧ Bel W.heap.size W w' := by
  subst hn
  refine (Digests_calls _ 1 [x] _ (C_dig1 x hx W) (Nat.le_refl _) (by simp)).mono ?_
  rintro e w' ⟨v, rfl, ho, hb⟩
  exact ⟨v, rfl, ho.lower (by simp), ((Bel.refl W).alloc _).trans hb⟩
theorem SameDigests_lit (x : List Int) (hx : x.length = 16) {A : Option Addr} {c : Nat} {W : World} (hr : Kd.C dgK W A 1 [x]) {n : Nat} (hn : n = W.heap.size) :
    Calls Try.prog 44 #[.slice A 1 c, .slice (some ⟨n, 0, none⟩) 1 1] (W.alloc (.cells (dgCells x).toArray 77)) fun e w' => e = .returned (.bool true) ∧ Bel W.heap.size W w' := by
  subst hn
  refine (SameDigests_calls _ _ _ _ [x] [x] _ (Kd.C_alloc hr _) (C_dig1 x hx W) (by simp) (by simp)).mono ?_
  rintro e w' ⟨rfl, h⟩
  exact ⟨by simp, ((Bel.refl W).alloc _).drawn h⟩
end Go.Proofs.Ytfngbmcedkncjaa
