/- The head of the translation: which words it bears; the facts of every row that read it. -/
import Derived.Test.YtfngbmcedkncjaaRows
import Derived.JoinedOf
set_option linter.unusedVariables false
namespace Go.Proofs.Ytfngbmcedkncjaa
/-- Words, a space between. -/
def joinWords : List (List Char) → List Char
  | [] => []
  | [w] => w
  | w :: v :: ws => w ++ Char.ofNat 32 :: joinWords (v :: ws)
theorem wordsSigns_cons (c : Char) (r : List Char) (hc : c ≠ Char.ofNat 32) : wordsSigns (c :: r) = match wordsSigns r with
    | w :: ws => (c :: w) :: ws
    | [] => [[c]] := by
  rw [wordsSigns]
  · cases wordsSigns r <;> rfl
  · exact hc
theorem wordsSigns_space (r : List Char) : wordsSigns (Char.ofNat 32 :: r) = [] :: wordsSigns r := rfl
theorem wordsSigns_one : ∀ w : List Char, (∀ c ∈ w, c ≠ Char.ofNat 32) → wordsSigns w = [w]
  | [], _ => rfl
  | c :: w, h => by rw [wordsSigns_cons c w (h c (by simp)), wordsSigns_one w (fun d hd => h d (by simp [hd]))]
theorem wordsSigns_app (r : List Char) : ∀ w : List Char, (∀ c ∈ w, c ≠ Char.ofNat 32) → wordsSigns (w ++ Char.ofNat 32 :: r) = w :: wordsSigns r
  | [], _ => wordsSigns_space r
  | c :: w, h => by rw [List.cons_append, wordsSigns_cons c _ (h c (by simp)), wordsSigns_app r w (fun d hd => h d (by simp [hd]))]
theorem wordsSigns_join : ∀ ws : List (List Char), ws ≠ [] → (∀ w ∈ ws, ∀ c ∈ w, c ≠ Char.ofNat 32) → wordsSigns (joinWords ws) = ws
  | [], h, _ => absurd rfl h
  | [w], _, h => wordsSigns_one w (h w (by simp))
  | w :: v :: ws, _, h => by
    rw [joinWords, wordsSigns_app _ w (h w (by simp)), wordsSigns_join (v :: ws) (by simp) (fun u hu => h u (by simp [hu]))]
/-- The head's words, their letters as numbers. -/
def headNums : List (List Nat) := [
  [104, 97, 114, 110, 101, 115, 115],
  [55, 53, 52, 54, 97, 102, 54, 100, 55, 56, 51, 52, 98, 97, 100, 57, 98, 52, 48, 49, 57, 53, 54, 100, 97, 98, 52, 53, 101, 98, 97, 54, 100, 48, 49, 101, 56, 54, 55, 101, 57, 55, 51, 97, 52, 49, 48, 100, 54, 98, 51, 97, 100, 51, 48, 52, 98, 97, 51, 53, 101, 98, 51, 51],
  [99, 117, 116],
  [97, 116],
  [97, 110, 116, 105, 113, 117, 97, 114, 121, 47, 97, 110, 116, 105, 113, 117, 97, 114, 121, 108, 97, 119, 48, 49, 46, 87, 105, 114, 101, 69, 110, 99, 111, 100, 101, 77, 97, 116, 99, 104, 101, 115, 83, 112, 101, 99],
  [97, 110, 116, 105, 113, 117, 97, 114, 121, 47, 97, 110, 116, 105, 113, 117, 97, 114, 121, 108, 97, 119, 48, 49, 46, 87, 105, 114, 101, 68, 101, 99, 111, 100, 101, 77, 97, 116, 99, 104, 101, 115, 83, 112, 101, 99],
  [97, 110, 116, 105, 113, 117, 97, 114, 121, 47, 97, 110, 116, 105, 113, 117, 97, 114, 121, 108, 97, 119, 48, 49, 46, 87, 105, 114, 101, 76, 101, 110, 103, 116, 104, 115],
  [97, 110, 116, 105, 113, 117, 97, 114, 121, 47, 97, 110, 116, 105, 113, 117, 97, 114, 121, 108, 97, 119, 48, 49, 46, 87, 105, 114, 101, 73, 110, 116, 82, 111, 117, 110, 100, 84, 114, 105, 112],
  [97, 110, 116, 105, 113, 117, 97, 114, 121, 47, 97, 110, 116, 105, 113, 117, 97, 114, 121, 108, 97, 119, 48, 49, 46, 87, 105, 114, 101, 67, 97, 110, 111, 110, 105, 99, 97, 108],
  [97, 110, 116, 105, 113, 117, 97, 114, 121, 47, 97, 110, 116, 105, 113, 117, 97, 114, 121, 108, 97, 119, 48, 49, 46, 87, 105, 114, 101, 76, 105, 115, 116, 82, 111, 117, 110, 100, 84, 114, 105, 112],
  [97, 110, 116, 105, 113, 117, 97, 114, 121, 47, 97, 110, 116, 105, 113, 117, 97, 114, 121, 108, 97, 119, 48, 49, 46, 87, 105, 114, 101, 84, 114, 117, 110, 99, 97, 116, 101, 100],
  [97, 110, 116, 105, 113, 117, 97, 114, 121, 47, 97, 110, 116, 105, 113, 117, 97, 114, 121, 108, 97, 119, 48, 49, 46, 87, 105, 114, 101, 67, 111, 110, 99, 97, 116],
  [97, 110, 116, 105, 113, 117, 97, 114, 121, 47, 97, 110, 116, 105, 113, 117, 97, 114, 121, 108, 97, 119, 48, 52, 46, 86, 101, 99, 116, 111, 114, 75, 101, 121, 115, 65, 115, 83, 112, 101, 99, 105, 102, 105, 101, 100],
  [97, 110, 116, 105, 113, 117, 97, 114, 121, 47, 97, 110, 116, 105, 113, 117, 97, 114, 121, 108, 97, 119, 48, 52, 46, 86, 101, 99, 116, 111, 114, 78, 111, 114, 109, 115, 65, 115, 83, 112, 101, 99, 105, 102, 105, 101, 100],
  [97, 110, 116, 105, 113, 117, 97, 114, 121, 47, 97, 110, 116, 105, 113, 117, 97, 114, 121, 108, 97, 119, 48, 52, 46, 86, 101, 99, 116, 111, 114, 75, 101, 121, 115, 65, 114, 101, 68, 105, 115, 116, 97, 110, 99, 101, 115],
  [97, 110, 116, 105, 113, 117, 97, 114, 121, 47, 97, 110, 116, 105, 113, 117, 97, 114, 121, 108, 97, 119, 48, 52, 46, 86, 101, 99, 116, 111, 114, 78, 111, 114, 109, 115, 65, 103, 114, 101, 101],
  [97, 110, 116, 105, 113, 117, 97, 114, 121, 47, 97, 110, 116, 105, 113, 117, 97, 114, 121, 108, 97, 119, 48, 52, 46, 86, 101, 99, 116, 111, 114, 77, 101, 97, 110, 73, 115, 66, 101, 116, 119, 101, 101, 110],
  [97, 110, 116, 105, 113, 117, 97, 114, 121, 47, 97, 110, 116, 105, 113, 117, 97, 114, 121, 108, 97, 119, 48, 52, 46, 86, 101, 99, 116, 111, 114, 67, 111, 100, 101, 115, 65, 115, 83, 112, 101, 99, 105, 102, 105, 101, 100],
  [97, 110, 116, 105, 113, 117, 97, 114, 121, 47, 97, 110, 116, 105, 113, 117, 97, 114, 121, 108, 97, 119, 48, 52, 46, 86, 101, 99, 116, 111, 114, 82, 101, 97, 100, 115, 66, 97, 99, 107],
  [97, 110, 116, 105, 113, 117, 97, 114, 121, 47, 97, 110, 116, 105, 113, 117, 97, 114, 121, 108, 97, 119, 48, 52, 46, 86, 101, 99, 116, 111, 114, 115, 65, 114, 101, 79, 114, 100, 101, 114, 101, 100]]
def headWords : List (List Char) := headNums.map fun w => w.map Char.ofNat
theorem head_is : Try.prog.initOrder = String.ofList (joinWords headWords) := by kernel_rfl
theorem head_plain : (headWords.all fun w => w.all fun c => c != Char.ofNat 32) = true := by kernel_rfl
theorem head_words : wordsSigns Try.prog.initOrder.toList = headWords := by
  rw [head_is, String.toList_ofList]
  refine wordsSigns_join headWords (by decide) fun w hw c hc => ?_
  have h1 := List.all_eq_true.1 head_plain w hw
  have h2 := List.all_eq_true.1 h1 c hc
  simpa using h2

def headCut : List Char := [99, 117, 116].map Char.ofNat
def headRest : List (List Char) := (headNums.drop 3).map fun w => w.map Char.ofNat
theorem head_behind : behindMainWord headWords = headCut :: headRest := by kernel_rfl
theorem cut_gc : (headCut == "gc".toList || headCut == "spec".toList) = false := by kernel_rfl
theorem cut_cut : (headCut == "cut".toList) = true := by kernel_rfl
theorem cut_strip : stripLifts liftWords (headCut :: headRest) = ([], headCut :: headRest) := by kernel_rfl
theorem cut_carried : (headCut == "carried".toList) = false := by kernel_rfl
theorem head_all : behindMainWord (wordsSigns Try.prog.initOrder.toList) = headCut :: headRest := by rw [head_words]; exact head_behind
section
variable {P : Program} (h : behindMainWord (wordsSigns P.initOrder.toList) = headCut :: headRest)
include h
theorem make_of : P.make = some .cut := by
  unfold Program.make
  rw [h]
  simp only [cut_gc, cut_cut, Bool.true_or, Bool.false_eq_true, if_false, if_true]
theorem lifts_of : P.liftsFinal = false := by
  unfold Program.liftsFinal Program.headLifts
  rw [h]
  simp only [cut_strip, List.head?_cons]
  kernel_rfl
theorem enter_of (hl : P.laysLater = false) (hb : P.bearsReflect = false) (hd : P.doorFits [] = true) : P.mayEnter = true := by
  unfold Program.mayEnter
  rw [h]
  simp only [cut_strip, cut_gc, cut_carried, hl, hb, hd, List.head?_cons, Bool.false_and, Bool.false_or, Bool.not_false, Bool.or_true, Bool.and_true]
  kernel_rfl
end
theorem head_make : Try.prog.make = some .cut := make_of head_all
theorem head_lifts : Try.prog.liftsFinal = false := lifts_of head_all
theorem head_lays : Try.prog.laysLater = false := by kernel_rfl
theorem head_reflect : Try.prog.bearsReflect = false := by kernel_rfl
theorem head_door : Try.prog.doorFits [] = true := by kernel_rfl
theorem head_enter : Try.prog.mayEnter = true := enter_of head_all head_lays head_reflect head_door

/-- The closed facts of a row, but for the three that read the head. -/
def restFacts (P : Program) (f : FuncId) (fn : Func) (s : ChangeSpec) (c : OpenClaim) : Bool :=
  c.wf (OpenSpec.ofChange s) &&
  laidOutB P &&
  mapsRowed P &&
  fn.params.all (P.readableRec ·) &&
  namedTie P c.named s.vars &&
  (c.stops == []) &&
  (P.stops == []) &&
  (c.knobs == []) &&
  (P.stopKnobs == []) &&
  (c.inPlace == P.inPlace f) &&
  (c.unfollowed == P.unfollowed f) &&
  (c.recurses == P.recurses f) &&
  (c.named == P.varsNamed f) &&
  (c.maps == (fn.params.toList ++ s.plain.varTypes P).any (P.mapsRec ·)) &&
  (c.ifaces == (fn.params.toList ++ s.plain.varTypes P).any (P.ifacesRec ·)) &&
  (c.mapsOut == P.mapsAmong fn.resultTypes.toList) &&
  (c.loops == (fn.params.toList ++ s.plain.varTypes P).any (P.loopsFrom ·)) &&
  (c.wideKeys == (fn.params.toList ++ s.plain.varTypes P ++ fn.resultTypes.toList).any (P.wideKeysFrom ·)) &&
  s.vars.all (P.varReadable ·) &&
  fn.resultTypes.all (fun t => P.readableRec t && decide (t < P.types.size)) &&
  (c.ifacesOut == fn.resultTypes.toList.any (P.ifacesRec ·)) &&
  (c.loopsOut == fn.resultTypes.toList.any (P.loopsFrom ·)) &&
  (c.plainKeys == P.plainKeys) &&
  c.shortTexts.isNone &&
  P.stopsHeard &&
  (c.kinds == (if c.domain.isEmpty then [] else fn.params.toList.map fun t => match P.underlying t with | some (.int k) => some k | _ => none)) &&
  (c.pinned == c.pinnedBy) &&
  (c.veiled == (fn.params.toList ++ s.plain.varTypes P ++ fn.resultTypes.toList).any (P.veiledRec ·)) &&
  c.veiledFits P fn.params.toList (fn.params.toList ++ s.plain.varTypes P ++ fn.resultTypes.toList)
theorem closed_of {P : Program} {f : FuncId} {fn : Func} {s : ChangeSpec} {c : OpenClaim} (hm : P.mayEnter = true) (hl : P.liftsFinal = false) (hk : P.make = some .cut) (h : restFacts P f fn s c = true) (h1 : c.lifted = false) (h2 : c.make = .cut) : joinedFacts P f fn s c = true := by
  unfold restFacts at h
  unfold joinedFacts
  rw [hm, hl, hk, h1, h2]
  simp only [Bool.and_eq_true] at h ⊢
  obtain ⟨⟨⟨⟨⟨⟨⟨⟨⟨⟨⟨⟨⟨⟨⟨⟨⟨⟨⟨⟨⟨⟨⟨⟨⟨⟨⟨⟨k0, k1⟩, k2⟩, k3⟩, k4⟩, k5⟩, k6⟩, k7⟩, k8⟩, k9⟩, k10⟩, k11⟩, k12⟩, k13⟩, k14⟩, k15⟩, k16⟩, k17⟩, k18⟩, k19⟩, k20⟩, k21⟩, k22⟩, k23⟩, k24⟩, k25⟩, k26⟩, k27⟩, k28⟩ := h
  exact ⟨⟨⟨⟨⟨⟨⟨⟨⟨⟨⟨⟨⟨⟨⟨⟨⟨⟨⟨⟨⟨⟨⟨⟨⟨⟨⟨⟨⟨⟨⟨k0, k1⟩, k2⟩, k3⟩, k4⟩, k5⟩, k6⟩, k7⟩, k8⟩, k9⟩, k10⟩, k11⟩, k12⟩, k13⟩, k14⟩, k15⟩, k16⟩, k17⟩, k18⟩, k19⟩, k20⟩, k21⟩, k22⟩, k23⟩, k24⟩, trivial⟩, rfl⟩, rfl⟩, k25⟩, k26⟩, k27⟩, k28⟩
end Go.Proofs.Ytfngbmcedkncjaa
