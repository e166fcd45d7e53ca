/- Closed facts on the program's head, once for all statements of the seat: word by word, so that the kernel need not split the whole text. Conditions: none. -/
import Derived.Test.YtjeafgnaoncphaaRows
import Derived.JoinedOf
import Derived.ProofKit
namespace Go.Proofs.Ytjeafgnaoncphaa
set_option maxRecDepth 1000000

theorem words_cons (w r : List Char) (h : ∀ c ∈ w, c ≠ Char.ofNat 32) : wordsSigns (w ++ Char.ofNat 32 :: r) = w :: wordsSigns r := by
  induction w with
  | nil => rfl
  | cons a w ih =>
    have ih' := ih (fun c hc => h c (List.mem_cons_of_mem _ hc))
    have ha : a ≠ Char.ofNat 32 := h a List.mem_cons_self
    show wordsSigns (a :: (w ++ Char.ofNat 32 :: r)) = _
    rw [wordsSigns]
    · rw [ih']
    · intro e; exact ha e

theorem head_form : ∃ r : List Char, Try.prog.initOrder = String.ofList ([Char.ofNat 104, Char.ofNat 97, Char.ofNat 114, Char.ofNat 110, Char.ofNat 101, Char.ofNat 115, Char.ofNat 115] ++ Char.ofNat 32 :: ([Char.ofNat 52, Char.ofNat 50, Char.ofNat 101, Char.ofNat 100, Char.ofNat 97, Char.ofNat 100, Char.ofNat 102, Char.ofNat 97, Char.ofNat 54, Char.ofNat 98, Char.ofNat 57, Char.ofNat 49, Char.ofNat 55, Char.ofNat 48, Char.ofNat 56, Char.ofNat 50, Char.ofNat 50, Char.ofNat 101, Char.ofNat 54, Char.ofNat 53, Char.ofNat 99, Char.ofNat 50, Char.ofNat 102, Char.ofNat 99, Char.ofNat 102, Char.ofNat 98, Char.ofNat 57, Char.ofNat 52, Char.ofNat 57, Char.ofNat 98, Char.ofNat 51, Char.ofNat 100, Char.ofNat 100, Char.ofNat 49, Char.ofNat 51, Char.ofNat 97, Char.ofNat 48, Char.ofNat 100, Char.ofNat 53, Char.ofNat 52, Char.ofNat 53, Char.ofNat 57, Char.ofNat 49, Char.ofNat 101, Char.ofNat 50, Char.ofNat 97, Char.ofNat 50, Char.ofNat 51, Char.ofNat 53, Char.ofNat 102, Char.ofNat 102, Char.ofNat 97, Char.ofNat 100, Char.ofNat 50, Char.ofNat 99, Char.ofNat 50, Char.ofNat 48, Char.ofNat 53, Char.ofNat 55, Char.ofNat 56, Char.ofNat 50, Char.ofNat 48, Char.ofNat 49, Char.ofNat 51] ++ Char.ofNat 32 :: ([Char.ofNat 99, Char.ofNat 117, Char.ofNat 116] ++ Char.ofNat 32 :: r))) := ⟨_, rfl⟩

theorem head_words : ∃ W : List (List Char), behindMainWord (wordsSigns Try.prog.initOrder.toList) = [Char.ofNat 99, Char.ofNat 117, Char.ofNat 116] :: W := by
  obtain ⟨r, h⟩ := head_form
  refine ⟨wordsSigns r, ?_⟩
  rw [h, String.toList_ofList, words_cons _ _ (by decide +kernel), words_cons _ _ (by decide +kernel), words_cons _ _ (by decide +kernel)]
  generalize wordsSigns r = W
  kernel_rfl

theorem make_of {P : Program} {c : List Char} {W : List (List Char)} (h : behindMainWord (wordsSigns P.initOrder.toList) = c :: W)
    (h1 : (c == "gc".toList || c == "spec".toList) = false) (h2 : (c == "cut".toList) = true) : P.make = some .cut := by
  unfold Program.make
  simp only [h, h1, h2, Bool.true_or, if_true]
  simp

theorem mayEnter_of {P : Program} {c : List Char} {W : List (List Char)} (h : behindMainWord (wordsSigns P.initOrder.toList) = c :: W)
    (h1 : (c == "gc".toList || c == "spec".toList) = false) (h2 : (c == "carried".toList) = false) (h3 : stripLifts liftWords (c :: W) = ([], c :: W)) (h4 : (c == "cut".toList) = true)
    (h5 : P.laysLater = false) (h6 : P.bearsReflect = false) (h7 : P.doorFits [] = true) : P.mayEnter = true := by
  unfold Program.mayEnter
  have h4' : c = "cut".toList := by simpa using h4
  simp only [h, h1, h2, h3, h5, h6, h7]
  simp [h4']

theorem lifts_of {P : Program} {c : List Char} {W : List (List Char)} (h : behindMainWord (wordsSigns P.initOrder.toList) = c :: W)
    (h2 : (some c == some "carried".toList) = false) (h3 : stripLifts liftWords (c :: W) = ([], c :: W)) : P.liftsFinal = false := by
  unfold Program.liftsFinal Program.headLifts
  simp only [h, h3, List.head?_cons, h2]
  simp

theorem laysLater_false : Try.prog.laysLater = false := by kernel_rfl
theorem bearsReflect_false : Try.prog.bearsReflect = false := by kernel_rfl
theorem doorFits_true : Try.prog.doorFits [] = true := by kernel_rfl
theorem strip_cut (W : List (List Char)) : stripLifts liftWords ([Char.ofNat 99, Char.ofNat 117, Char.ofNat 116] :: W) = ([], [Char.ofNat 99, Char.ofNat 117, Char.ofNat 116] :: W) := by kernel_rfl
theorem cut_not_gc : ([Char.ofNat 99, Char.ofNat 117, Char.ofNat 116] == "gc".toList || [Char.ofNat 99, Char.ofNat 117, Char.ofNat 116] == "spec".toList) = false := by kernel_rfl
theorem cut_not_carried : ([Char.ofNat 99, Char.ofNat 117, Char.ofNat 116] == "carried".toList) = false := by kernel_rfl
theorem cut_not_carried' : (some [Char.ofNat 99, Char.ofNat 117, Char.ofNat 116] == some "carried".toList) = false := by kernel_rfl
theorem cut_is : ([Char.ofNat 99, Char.ofNat 117, Char.ofNat 116] == "cut".toList) = true := by kernel_rfl

theorem mayEnter_true : Try.prog.mayEnter = true := by
  obtain ⟨W, h⟩ := head_words
  exact mayEnter_of h cut_not_gc cut_not_carried (strip_cut W) cut_is laysLater_false bearsReflect_false doorFits_true

theorem lifts_false : Try.prog.liftsFinal = false := by
  obtain ⟨W, h⟩ := head_words
  exact lifts_of h cut_not_carried' (strip_cut W)

theorem make_cut : Try.prog.make = some .cut := by
  obtain ⟨W, h⟩ := head_words
  exact make_of h cut_not_gc cut_is

theorem laidOut : laidOutB Try.prog = true := by kernel_rfl
theorem mapsRowed_true : mapsRowed Try.prog = true := by kernel_rfl
theorem plainKeys_true : Try.prog.plainKeys = true := by kernel_rfl
theorem stopsHeard_true : Try.prog.stopsHeard = true := by kernel_rfl
theorem stops_nil : Try.prog.stops = [] := by kernel_rfl
theorem stopKnobs_nil : Try.prog.stopKnobs = [] := by kernel_rfl

end Go.Proofs.Ytjeafgnaoncphaa
