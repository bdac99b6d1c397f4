/- The plain specification of the vectors, and the theorems about it: lists of numbers; no program in sight. The mean: columns. -/
set_option linter.unusedVariables false
namespace Go.Proofs.Ytfngbmcedkncjaa.Plain

/-- All elements are within k of 0. -/
def within (k : Int) (l : List Int) : Bool := l.all fun x => decide (-k ≤ x) && decide (x ≤ k)
def fewB (l : List Int) : Bool := decide (1 ≤ l.length) && decide (l.length ≤ 32)
/-- A vector. -/
def vOk (l : List Int) : Bool := within 1000 l && fewB l
/-- A difference. -/
def vDiff (l : List Int) : Bool := within 2000 l && fewB l
def vAlike (a b : List Int) : Bool := vOk a && vOk b && decide (a.length = b.length)
def vsub : List Int → List Int → List Int
  | x :: a, y :: b => (x - y) :: vsub a b
  | _, _ => []
/-- The product of two lists, behind n. -/
def vdotF (n : Int) : List Int → List Int → Int
  | x :: a, y :: b => vdotF (n + x * y) a b
  | _, _ => n
def vdot (a b : List Int) : Int := vdotF 0 a b
/-- One step of a norm. -/
def vst (m : Int) (n x : Int) : Int := if m = 1 then n + max x (-x) else if m = 2 then n + x * x else max (max n x) (-x)
def vnorm (m : Int) (l : List Int) : Int := l.foldl (vst m) 0
def vkey (m : Int) (a b : List Int) : Int := vnorm m (vsub a b)

theorem within_iff {k : Int} {l : List Int} : within k l = true ↔ ∀ x ∈ l, -k ≤ x ∧ x ≤ k := by
  unfold within
  rw [List.all_eq_true]
  constructor
  · intro h x hx; have := h x hx; simp at this; exact this
  · intro h x hx; have := h x hx; simp; exact this
theorem fewB_iff {l : List Int} : fewB l = true ↔ 1 ≤ l.length ∧ l.length ≤ 32 := by
  unfold fewB; simp
theorem vOk_iff {l : List Int} : vOk l = true ↔ (∀ x ∈ l, -1000 ≤ x ∧ x ≤ 1000) ∧ 1 ≤ l.length ∧ l.length ≤ 32 := by
  unfold vOk; rw [Bool.and_eq_true, within_iff, fewB_iff]
theorem vDiff_iff {l : List Int} : vDiff l = true ↔ (∀ x ∈ l, -2000 ≤ x ∧ x ≤ 2000) ∧ 1 ≤ l.length ∧ l.length ≤ 32 := by
  unfold vDiff; rw [Bool.and_eq_true, within_iff, fewB_iff]
theorem vAlike_iff {a b : List Int} : vAlike a b = true ↔ vOk a = true ∧ vOk b = true ∧ a.length = b.length := by
  unfold vAlike; simp [and_assoc]

theorem vsub_length : ∀ {a b : List Int}, a.length = b.length → (vsub a b).length = a.length
  | [], [], _ => rfl
  | x :: a, y :: b, h => by simp [vsub, vsub_length (show a.length = b.length by simpa using h)]
theorem vsub_within : ∀ {a b : List Int} {k : Int}, (∀ x ∈ a, -k ≤ x ∧ x ≤ k) → (∀ x ∈ b, -k ≤ x ∧ x ≤ k) → ∀ x ∈ vsub a b, -(2 * k) ≤ x ∧ x ≤ 2 * k
  | [], _, k, _, _ => by simp [vsub]
  | _ :: _, [], k, _, _ => by simp [vsub]
  | x :: a, y :: b, k, ha, hb => by
    intro z hz
    simp only [vsub, List.mem_cons] at hz
    rcases hz with rfl | hz
    · have h1 := ha x (by simp)
      have h2 := hb y (by simp)
      omega
    · exact vsub_within (fun x hx => ha x (by simp [hx])) (fun x hx => hb x (by simp [hx])) z hz
theorem vsub_diff {a b : List Int} (h : vAlike a b = true) : vDiff (vsub a b) = true := by
  obtain ⟨ha, hb, hl⟩ := vAlike_iff.1 h
  obtain ⟨ha1, ha2, ha3⟩ := vOk_iff.1 ha
  obtain ⟨hb1, hb2, hb3⟩ := vOk_iff.1 hb
  refine vDiff_iff.2 ⟨fun x hx => ?_, ?_, ?_⟩
  · have := vsub_within ha1 hb1 x hx; omega
  · rw [vsub_length hl]; omega
  · rw [vsub_length hl]; omega

/-! Sums. -/
def sumsq : List Int → Int
  | [] => 0
  | x :: l => x * x + sumsq l
def sumabs : List Int → Int
  | [] => 0
  | x :: l => max x (-x) + sumabs l
def prod : List Int → List Int → Int
  | x :: a, y :: b => x * y + prod a b
  | _, _ => 0
def maxabs : List Int → Int
  | [] => 0
  | x :: l => max (max x (-x)) (maxabs l)
theorem vdotF_eq : ∀ (a b : List Int) (n : Int), vdotF n a b = n + prod a b
  | [], _, n => by simp [vdotF, prod]
  | _ :: _, [], n => by simp [vdotF, prod]
  | x :: a, y :: b, n => by simp only [vdotF, prod, vdotF_eq a b]; omega
theorem vdot_eq (a b : List Int) : vdot a b = prod a b := by simp [vdot, vdotF_eq]
theorem foldl1 : ∀ (l : List Int) (n : Int), l.foldl (vst 1) n = n + sumabs l
  | [], n => by simp [sumabs]
  | x :: l, n => by
    rw [List.foldl_cons, foldl1 l, sumabs]
    have : vst 1 n x = n + max x (-x) := by simp [vst]
    omega
theorem foldl2 : ∀ (l : List Int) (n : Int), l.foldl (vst 2) n = n + sumsq l
  | [], n => by simp [sumsq]
  | x :: l, n => by
    rw [List.foldl_cons, foldl2 l, sumsq]
    have : vst 2 n x = n + x * x := by simp [vst]
    omega
theorem maxabs_nonneg : ∀ l : List Int, 0 ≤ maxabs l
  | [] => by simp [maxabs]
  | x :: l => by have := maxabs_nonneg l; simp only [maxabs]; omega
theorem foldl3 : ∀ (l : List Int) (n : Int), 0 ≤ n → l.foldl (vst 3) n = max n (maxabs l)
  | [], n, h => by simp [maxabs]; omega
  | x :: l, n, h => by
    have e : vst 3 n x = max (max n x) (-x) := by simp [vst]
    rw [List.foldl_cons, foldl3 l _ (by rw [e]; omega), maxabs, e]
    omega
theorem vnorm1 (l : List Int) : vnorm 1 l = sumabs l := by simp [vnorm, foldl1]
theorem vnorm2 (l : List Int) : vnorm 2 l = sumsq l := by simp [vnorm, foldl2]
theorem vnorm3 (l : List Int) : vnorm 3 l = maxabs l := by
  have := maxabs_nonneg l
  rw [vnorm, foldl3 l 0 (by omega)]; omega

theorem sq_nonneg (x : Int) : 0 ≤ x * x := by
  rcases Int.le_total 0 x with h | h
  · exact Int.mul_nonneg h h
  · have := Int.mul_nonneg (show 0 ≤ -x by omega) (show 0 ≤ -x by omega)
    rwa [Int.neg_mul_neg] at this
theorem sumsq_nonneg : ∀ l : List Int, 0 ≤ sumsq l
  | [] => by simp [sumsq]
  | x :: l => by have := sumsq_nonneg l; have := sq_nonneg x; simp only [sumsq]; omega
theorem sumabs_nonneg : ∀ l : List Int, 0 ≤ sumabs l
  | [] => by simp [sumabs]
  | x :: l => by have := sumabs_nonneg l; simp only [sumabs]; omega
theorem prod_self : ∀ l : List Int, prod l l = sumsq l
  | [] => rfl
  | x :: l => by simp [prod, sumsq, prod_self l]
/-- Cauchy and Schwarz. -/
theorem quad (s t : Int) : ∀ (a b : List Int), a.length = b.length → 0 ≤ s * s * sumsq a - 2 * (s * t * prod a b) + t * t * sumsq b
  | [], [], _ => by simp [sumsq, prod]
  | x :: a, y :: b, h => by
    have ih := quad s t a b (by simpa using h)
    have h2 := sq_nonneg (s * x - t * y)
    simp only [sumsq, prod]
    have e : s * s * (x * x + sumsq a) - 2 * (s * t * (x * y + prod a b)) + t * t * (y * y + sumsq b) = (s * x - t * y) * (s * x - t * y) + (s * s * sumsq a - 2 * (s * t * prod a b) + t * t * sumsq b) := by grind
    omega
theorem sumsq_zero : ∀ {l : List Int}, sumsq l = 0 → ∀ x ∈ l, x = 0
  | [], _ => by simp
  | x :: l, h => by
    have h1 := sq_nonneg x
    have h2 := sumsq_nonneg l
    simp only [sumsq] at h
    intro z hz
    simp only [List.mem_cons] at hz
    rcases hz with rfl | hz
    · have : z * z = 0 := by omega
      rcases Int.mul_eq_zero.1 this with h | h <;> exact h
    · exact sumsq_zero (by omega) z hz
theorem prod_zero : ∀ (a : List Int) {b : List Int}, (∀ x ∈ b, x = 0) → prod a b = 0
  | [], _, _ => by simp [prod]
  | _ :: _, [], _ => by simp [prod]
  | x :: a, y :: b, h => by
    have h1 := h y (by simp)
    have h2 := prod_zero a (b := b) (fun x hx => h x (by simp [hx]))
    simp [prod, h1, h2]
theorem cauchy {a b : List Int} (h : a.length = b.length) : prod a b * prod a b ≤ sumsq a * sumsq b := by
  have hB := sumsq_nonneg b
  rcases Int.lt_or_eq_of_le hB with hb | hb
  · have q := quad (sumsq b) (prod a b) a b h
    have e : sumsq b * sumsq b * sumsq a - 2 * (sumsq b * prod a b * prod a b) + prod a b * prod a b * sumsq b = sumsq b * (sumsq a * sumsq b - prod a b * prod a b) := by grind
    rw [e] at q
    have := Int.nonneg_of_mul_nonneg_right q hb
    omega
  · rw [prod_zero a (sumsq_zero hb.symm), ← hb]; simp
/-- The sum of two differences. -/
theorem vsub_tri : ∀ {a b c : List Int}, a.length = b.length → b.length = c.length → sumsq (vsub a c) = sumsq (vsub a b) + sumsq (vsub b c) + 2 * prod (vsub a b) (vsub b c)
  | [], [], [], _, _ => rfl
  | x :: a, y :: b, z :: c, h1, h2 => by
    have ih := vsub_tri (a := a) (b := b) (c := c) (by simpa using h1) (by simpa using h2)
    simp only [vsub, sumsq, prod]
    have e : (x - z) * (x - z) = (x - y) * (x - y) + (y - z) * (y - z) + 2 * ((x - y) * (y - z)) := by grind
    omega
theorem sumabs_tri : ∀ {a b c : List Int}, a.length = b.length → b.length = c.length → sumabs (vsub a c) ≤ sumabs (vsub a b) + sumabs (vsub b c)
  | [], [], [], _, _ => by simp [vsub, sumabs]
  | x :: a, y :: b, z :: c, h1, h2 => by
    have ih := sumabs_tri (a := a) (b := b) (c := c) (by simpa using h1) (by simpa using h2)
    simp only [vsub, sumabs]
    omega
theorem maxabs_tri : ∀ {a b c : List Int}, a.length = b.length → b.length = c.length → maxabs (vsub a c) ≤ maxabs (vsub a b) + maxabs (vsub b c)
  | [], [], [], _, _ => by simp [vsub, maxabs]
  | x :: a, y :: b, z :: c, h1, h2 => by
    have ih := maxabs_tri (a := a) (b := b) (c := c) (by simpa using h1) (by simpa using h2)
    have k1 := maxabs_nonneg (vsub a b)
    have k2 := maxabs_nonneg (vsub b c)
    simp only [vsub, maxabs]
    omega
theorem sumabs_comm : ∀ (a b : List Int), sumabs (vsub a b) = sumabs (vsub b a)
  | [], [] => rfl
  | [], _ :: _ => rfl
  | _ :: _, [] => rfl
  | x :: a, y :: b => by have := sumabs_comm a b; simp only [vsub, sumabs]; omega
theorem maxabs_comm : ∀ (a b : List Int), maxabs (vsub a b) = maxabs (vsub b a)
  | [], [] => rfl
  | [], _ :: _ => rfl
  | _ :: _, [] => rfl
  | x :: a, y :: b => by have := maxabs_comm a b; simp only [vsub, maxabs]; omega
theorem sumsq_comm : ∀ (a b : List Int), sumsq (vsub a b) = sumsq (vsub b a)
  | [], [] => rfl
  | [], _ :: _ => rfl
  | _ :: _, [] => rfl
  | x :: a, y :: b => by
    have := sumsq_comm a b
    simp only [vsub, sumsq]
    have e : (x - y) * (x - y) = (y - x) * (y - x) := by grind
    omega
theorem vsub_zero : ∀ {a b : List Int}, a.length = b.length → ((∀ x ∈ vsub a b, x = 0) ↔ a = b)
  | [], [], _ => by simp [vsub]
  | x :: a, y :: b, h => by
    have ih := vsub_zero (a := a) (b := b) (by simpa using h)
    simp only [vsub, List.mem_cons, forall_eq_or_imp, List.cons.injEq, ih]
    constructor
    · rintro ⟨h1, h2⟩; exact ⟨by omega, h2⟩
    · rintro ⟨h1, h2⟩; exact ⟨by omega, h2⟩
theorem sumsq_zero' : ∀ {l : List Int}, (∀ x ∈ l, x = 0) → sumsq l = 0
  | [], _ => rfl
  | x :: l, h => by
    have h1 := h x (by simp)
    have h2 := sumsq_zero' (l := l) (fun x hx => h x (by simp [hx]))
    simp [sumsq, h1, h2]
theorem sumabs_zero : ∀ {l : List Int}, (sumabs l = 0 ↔ ∀ x ∈ l, x = 0)
  | [] => by simp [sumabs]
  | x :: l => by
    have ih := sumabs_zero (l := l)
    have h1 := sumabs_nonneg l
    simp only [sumabs, List.mem_cons, forall_eq_or_imp, ← ih]
    omega
theorem maxabs_zero : ∀ {l : List Int}, (maxabs l = 0 ↔ ∀ x ∈ l, x = 0)
  | [] => by simp [maxabs]
  | x :: l => by
    have ih := maxabs_zero (l := l)
    have h1 := maxabs_nonneg l
    simp only [maxabs, List.mem_cons, forall_eq_or_imp, ← ih]
    omega
/-! Bounds. -/
theorem sq_le {x k : Int} (h : -k ≤ x ∧ x ≤ k) : x * x ≤ k * k := by
  rcases Int.le_total 0 x with h0 | h0
  · exact Int.mul_le_mul h.2 h.2 h0 (by omega)
  · have := Int.mul_le_mul (show -x ≤ k by omega) (show -x ≤ k by omega) (by omega) (by omega)
    rwa [Int.neg_mul_neg] at this
theorem sumsq_le : ∀ {l : List Int}, (∀ x ∈ l, -2000 ≤ x ∧ x ≤ 2000) → sumsq l ≤ 4000000 * l.length
  | [], _ => by simp [sumsq]
  | x :: l, h => by
    have h1 := sq_le (h x (by simp))
    have h2 := sumsq_le (l := l) (fun x hx => h x (by simp [hx]))
    simp only [sumsq, List.length_cons]
    omega
theorem sumabs_le : ∀ {l : List Int}, (∀ x ∈ l, -2000 ≤ x ∧ x ≤ 2000) → sumabs l ≤ 2000 * l.length
  | [], _ => by simp [sumabs]
  | x :: l, h => by
    have h1 := h x (by simp)
    have h2 := sumabs_le (l := l) (fun x hx => h x (by simp [hx]))
    simp only [sumabs, List.length_cons]
    omega
theorem maxabs_le : ∀ {l : List Int}, (∀ x ∈ l, -2000 ≤ x ∧ x ≤ 2000) → maxabs l ≤ 2000
  | [], _ => by simp [maxabs]
  | x :: l, h => by
    have h1 := h x (by simp)
    have h2 := maxabs_le (l := l) (fun x hx => h x (by simp [hx]))
    simp only [maxabs]
    omega

/-! The three norms. -/
theorem max_le_sum : ∀ l : List Int, maxabs l ≤ sumabs l
  | [] => by simp [maxabs, sumabs]
  | x :: l => by
    have := max_le_sum l
    have := sumabs_nonneg l
    have := maxabs_nonneg l
    simp only [maxabs, sumabs]; omega
theorem abs_le_max : ∀ {l : List Int} {x : Int}, x ∈ l → max x (-x) ≤ maxabs l
  | y :: l, x, h => by
    simp only [List.mem_cons] at h
    simp only [maxabs]
    rcases h with rfl | h
    · omega
    · have := abs_le_max h; omega
theorem sum_le_max : ∀ {l : List Int} {M : Int}, (∀ x ∈ l, max x (-x) ≤ M) → sumabs l ≤ l.length * M
  | [], M, _ => by simp [sumabs]
  | x :: l, M, h => by
    have h1 := h x (by simp)
    have h2 := sum_le_max (l := l) (M := M) (fun x hx => h x (by simp [hx]))
    simp only [sumabs, List.length_cons]
    have e : ((l.length + 1 : Nat) : Int) * M = l.length * M + M := by grind
    rw [e]; omega
theorem sq_abs (x : Int) : max x (-x) * max x (-x) = x * x := by
  rcases Int.le_total 0 x with h | h
  · rw [show max x (-x) = x by omega]
  · rw [show max x (-x) = -x by omega, Int.neg_mul_neg]
theorem max_sq : ∀ l : List Int, maxabs l * maxabs l ≤ sumsq l
  | [] => by simp [maxabs, sumsq]
  | x :: l => by
    have ih := max_sq l
    have h1 := sq_nonneg x
    have h2 := sumsq_nonneg l
    have h3 := sq_abs x
    simp only [maxabs, sumsq]
    rcases Int.le_total (max x (-x)) (maxabs l) with h | h
    · rw [show max (max x (-x)) (maxabs l) = maxabs l by omega]; omega
    · rw [show max (max x (-x)) (maxabs l) = max x (-x) by omega, h3]; omega
theorem sumsq_le_max : ∀ {l : List Int} {M : Int}, (∀ x ∈ l, max x (-x) ≤ M) → sumsq l ≤ M * sumabs l
  | [], M, _ => by simp [sumsq, sumabs]
  | x :: l, M, h => by
    have h1 := h x (by simp)
    have h2 := sumsq_le_max (l := l) (M := M) (fun x hx => h x (by simp [hx]))
    have h3 := sq_abs x
    have h4 : max x (-x) * max x (-x) ≤ M * max x (-x) := Int.mul_le_mul_of_nonneg_right h1 (by omega)
    simp only [sumsq, sumabs]
    rw [Int.mul_add]; omega
theorem sumsq_ones (n : Nat) : sumsq (List.replicate n 1) = n := by
  induction n with
  | zero => rfl
  | succ n ih => simp only [List.replicate_succ, sumsq, ih]; omega
theorem prod_ones : ∀ l : List Int, prod (l.map fun x => max x (-x)) (List.replicate l.length 1) = sumabs l
  | [] => rfl
  | x :: l => by
    simp only [List.map_cons, List.length_cons, List.replicate_succ, prod, sumabs, prod_ones l]; omega
theorem sumsq_abs : ∀ l : List Int, sumsq (l.map fun x => max x (-x)) = sumsq l
  | [] => rfl
  | x :: l => by simp only [List.map_cons, sumsq, sumsq_abs l, sq_abs]
theorem sum_sq (l : List Int) : sumabs l * sumabs l ≤ l.length * sumsq l := by
  have h := cauchy (a := l.map fun x => max x (-x)) (b := List.replicate l.length 1) (by simp)
  rw [prod_ones, sumsq_ones, sumsq_abs] at h
  rw [Int.mul_comm (l.length : Int)]; exact h
theorem sumsq_vsub : ∀ {a b : List Int}, a.length = b.length → sumsq (vsub a b) = sumsq a + sumsq b - 2 * prod a b
  | [], [], _ => rfl
  | x :: a, y :: b, h => by
    have ih := sumsq_vsub (a := a) (b := b) (by simpa using h)
    simp only [vsub, sumsq, prod]
    have e : (x - y) * (x - y) = x * x + y * y - 2 * (x * y) := by grind
    omega
end Go.Proofs.Ytfngbmcedkncjaa.Plain
namespace Go.Proofs.Ytfngbmcedkncjaa.Plain
/-- The element i. -/
def at_ (l : List Int) (i : Nat) : Int := l.getD i 0
/-- The sum of a column. -/
def col (i : Nat) : List (List Int) → Int
  | [] => 0
  | v :: l => at_ v i + col i l
def vadd : List Int → List Int → List Int
  | x :: a, y :: b => (x + y) :: vadd a b
  | _, _ => []
/-- The mean of vectors of d coordinates. -/
def vmean (d : Nat) (l : List (List Int)) : List Int := (List.range d).map fun i => col i l / (l.length : Int)
theorem col_append (i : Nat) : ∀ l m : List (List Int), col i (l ++ m) = col i l + col i m
  | [], m => by simp [col]
  | v :: l, m => by simp only [List.cons_append, col, col_append i l m]; omega
theorem col_turn (i k : Nat) (l : List (List Int)) : col i (l.drop k ++ l.take k) = col i l := by
  have h := col_append i (l.take k) (l.drop k)
  rw [List.take_append_drop] at h
  rw [col_append]; omega
theorem vmean_turn (d k : Nat) (l : List (List Int)) : vmean d (l.drop k ++ l.take k) = vmean d l := by
  unfold vmean
  have e : (l.drop k ++ l.take k).length = l.length := by simp; omega
  rw [e]
  congr 1
  funext i
  rw [col_turn]
theorem at_mem {l : List Int} {i : Nat} (h : i < l.length) : at_ l i ∈ l := by
  unfold at_
  rw [List.getD_eq_getElem?_getD, List.getElem?_eq_getElem h]
  simp
theorem vmean_three (v : List Int) : vmean v.length [v, v, v] = v := by
  apply List.ext_getElem
  · simp [vmean]
  · intro i h1 h2
    simp only [vmean, List.getElem_map, List.getElem_range, col, at_, List.getD_eq_getElem?_getD, List.getElem?_eq_getElem h2]
    simp
    omega
theorem vmean_length (d : Nat) (l : List (List Int)) : (vmean d l).length = d := by simp [vmean]
theorem at_vmean {d i : Nat} (h : i < d) (l : List (List Int)) : at_ (vmean d l) i = col i l / (l.length : Int) := by
  simp [at_, vmean, List.getD_eq_getElem?_getD, h]
theorem col_ge {i : Nat} {m : Int} : ∀ {l : List (List Int)}, (∀ v ∈ l, m ≤ at_ v i) → m * l.length ≤ col i l
  | [], _ => by simp [col]
  | v :: l, h => by
    have h1 := h v (by simp)
    have h2 := col_ge (l := l) (fun u hu => h u (by simp [hu]))
    simp only [col, List.length_cons]
    have e : m * ((l.length + 1 : Nat) : Int) = m * l.length + m := by grind
    omega
theorem col_le {i : Nat} {m : Int} : ∀ {l : List (List Int)}, (∀ v ∈ l, at_ v i ≤ m) → col i l ≤ m * l.length
  | [], _ => by simp [col]
  | v :: l, h => by
    have h1 := h v (by simp)
    have h2 := col_le (l := l) (fun u hu => h u (by simp [hu]))
    simp only [col, List.length_cons]
    have e : m * ((l.length + 1 : Nat) : Int) = m * l.length + m := by grind
    omega
theorem mean_ge {i : Nat} {m : Int} {l : List (List Int)} (hp : 0 < l.length) (h : ∀ v ∈ l, m ≤ at_ v i) : m ≤ col i l / (l.length : Int) :=
  Int.le_ediv_of_mul_le (by omega) (col_ge h)
theorem mean_le {i : Nat} {m : Int} {l : List (List Int)} (hp : 0 < l.length) (h : ∀ v ∈ l, at_ v i ≤ m) : col i l / (l.length : Int) ≤ m := by
  have h1 := col_le h
  have h2 : (l.length : Int) * (col i l / (l.length : Int)) ≤ col i l := Int.mul_ediv_self_le (by omega)
  have h3 : (l.length : Int) * (col i l / (l.length : Int)) ≤ (l.length : Int) * m := by rw [Int.mul_comm _ m]; omega
  exact Int.le_of_mul_le_mul_left h3 (by omega)
/-- All vectors are alike. -/
def vAll (l : List (List Int)) : Bool := l.all fun v => vAlike (l.headD []) v
theorem vmean_ok {d : Nat} {l : List (List Int)} (hp : 0 < l.length) (hd : 1 ≤ d ∧ d ≤ 32) (h : ∀ v ∈ l, v.length = d ∧ vOk v = true) : vOk (vmean d l) = true := by
  refine vOk_iff.2 ⟨?_, by rw [vmean_length]; exact hd.1, by rw [vmean_length]; exact hd.2⟩
  intro x hx
  unfold vmean at hx
  obtain ⟨i, hi, rfl⟩ := List.mem_map.1 hx
  rw [List.mem_range] at hi
  have hb : ∀ v ∈ l, -1000 ≤ at_ v i ∧ at_ v i ≤ 1000 := fun v hv => (vOk_iff.1 (h v hv).2).1 _ (at_mem (by rw [(h v hv).1]; exact hi))
  exact ⟨mean_ge hp fun v hv => (hb v hv).1, mean_le hp fun v hv => (hb v hv).2⟩
/-- The least and the greatest of a column, behind low and high. -/
def lowF (i : Nat) (n : Int) (l : List (List Int)) : Int := l.foldl (fun n v => min n (at_ v i)) n
def highF (i : Nat) (n : Int) (l : List (List Int)) : Int := l.foldl (fun n v => max n (at_ v i)) n
theorem lowF_le (i : Nat) : ∀ (l : List (List Int)) (n : Int), lowF i n l ≤ n ∧ ∀ v ∈ l, lowF i n l ≤ at_ v i
  | [], n => by simp [lowF]
  | u :: l, n => by
    have ih := lowF_le i l (min n (at_ u i))
    have e : lowF i n (u :: l) = lowF i (min n (at_ u i)) l := rfl
    rw [e]
    refine ⟨by omega, fun v hv => ?_⟩
    simp only [List.mem_cons] at hv
    rcases hv with rfl | hv
    · omega
    · exact ih.2 v hv
theorem highF_ge (i : Nat) : ∀ (l : List (List Int)) (n : Int), n ≤ highF i n l ∧ ∀ v ∈ l, at_ v i ≤ highF i n l
  | [], n => by simp [highF]
  | u :: l, n => by
    have ih := highF_ge i l (max n (at_ u i))
    have e : highF i n (u :: l) = highF i (max n (at_ u i)) l := rfl
    rw [e]
    refine ⟨by omega, fun v hv => ?_⟩
    simp only [List.mem_cons] at hv
    rcases hv with rfl | hv
    · omega
    · exact ih.2 v hv
end Go.Proofs.Ytfngbmcedkncjaa.Plain
namespace Go.Proofs.Ytfngbmcedkncjaa
/-- Two numbers. -/
def cm (a b : Int) : Int := if a < b then -1 else if b < a then 1 else 0
/-- Letter by letter. -/
def sc : List Int → List Int → Int
  | [], [] => 0
  | [], _ :: _ => -1
  | _ :: _, [] => 1
  | a :: l, b :: m => if a < b then -1 else if b < a then 1 else sc l m
/-- The length first. -/
def vc (a b : List Int) : Int := if a.length < b.length then -1 else if b.length < a.length then 1 else sc a b
end Go.Proofs.Ytfngbmcedkncjaa
set_option linter.unusedVariables false
namespace Go.Proofs.Ytfngbmcedkncjaa
theorem sc_range : ∀ a b : List Int, -1 ≤ sc a b ∧ sc a b ≤ 1
  | [], [] => by simp [sc]
  | [], _ :: _ => by simp [sc]
  | _ :: _, [] => by simp [sc]
  | x :: a, y :: b => by
    have ih := sc_range a b
    unfold sc
    split
    · omega
    · split
      · omega
      · exact ih
theorem vc_range (a b : List Int) : -1 ≤ vc a b ∧ vc a b ≤ 1 := by
  have := sc_range a b
  unfold vc
  split
  · omega
  · split
    · omega
    · exact this
theorem sc_turn : ∀ a b : List Int, sc a b = -sc b a
  | [], [] => by simp [sc]
  | [], _ :: _ => by simp [sc]
  | _ :: _, [] => by simp [sc]
  | x :: a, y :: b => by
    have ih := sc_turn a b
    unfold sc
    by_cases h1 : x < y
    · rw [if_pos h1, if_neg (by omega), if_pos h1]
    · by_cases h2 : y < x
      · rw [if_neg h1, if_pos h2, if_pos h2]; rfl
      · rw [if_neg h1, if_neg h2, if_neg h2, if_neg h1]; exact ih
theorem vc_turn (a b : List Int) : vc a b = -vc b a := by
  have h := sc_turn a b
  unfold vc
  by_cases h1 : a.length < b.length
  · rw [if_pos h1, if_neg (by omega), if_pos h1]
  · by_cases h2 : b.length < a.length
    · rw [if_neg h1, if_pos h2, if_pos h2]; rfl
    · rw [if_neg h1, if_neg h2, if_neg h2, if_neg h1]; exact h
theorem sc_trans : ∀ a b c : List Int, sc a b ≤ 0 → sc b c ≤ 0 → sc a c ≤ 0
  | [], [], c, _, h => h
  | [], _ :: _, [], _, _ => by simp [sc]
  | [], _ :: _, _ :: _, _, _ => by simp [sc]
  | _ :: _, [], c, h, _ => by simp [sc] at h
  | _ :: _, _ :: _, [], _, h => by simp [sc] at h
  | x :: a, y :: b, z :: c, h, k => by
    have ih := sc_trans a b c
    unfold sc at h k ⊢
    by_cases h1 : x < y
    · by_cases k1 : y < z
      · rw [if_pos (by omega)]; decide
      · by_cases k2 : z < y
        · rw [if_neg k1, if_pos k2] at k; omega
        · rw [if_pos (by omega)]; decide
    · by_cases h2 : y < x
      · rw [if_neg h1, if_pos h2] at h; omega
      · rw [if_neg h1, if_neg h2] at h
        by_cases k1 : y < z
        · rw [if_pos (by omega)]; decide
        · by_cases k2 : z < y
          · rw [if_neg k1, if_pos k2] at k; omega
          · rw [if_neg k1, if_neg k2] at k
            rw [if_neg (by omega), if_neg (by omega)]
            exact ih h k
theorem vc_trans (a b c : List Int) (h : vc a b ≤ 0) (k : vc b c ≤ 0) : vc a c ≤ 0 := by
  have ih := sc_trans a b c
  unfold vc at h k ⊢
  by_cases h1 : a.length < b.length
  · by_cases k1 : b.length < c.length
    · rw [if_pos (by omega)]; decide
    · by_cases k2 : c.length < b.length
      · rw [if_neg k1, if_pos k2] at k; omega
      · rw [if_pos (by omega)]; decide
  · by_cases h2 : b.length < a.length
    · rw [if_neg h1, if_pos h2] at h; omega
    · rw [if_neg h1, if_neg h2] at h
      by_cases k1 : b.length < c.length
      · rw [if_pos (by omega)]; decide
      · by_cases k2 : c.length < b.length
        · rw [if_neg k1, if_pos k2] at k; omega
        · rw [if_neg k1, if_neg k2] at k
          rw [if_neg (by omega), if_neg (by omega)]
          exact ih h k
end Go.Proofs.Ytfngbmcedkncjaa
