/- The chapter's examples of 'told' hold: ToldNames answers true. It has no argument and no condition: the call is run out, operation by operation, by a sound evaluator inside the kernel (the texts Sep.., Clo..), over the program's own functions. -/
import Derived.Test.YtgadojhdajmidaaGreatDoorCards
import Derived.Test.YtgadojhdajmidaaGreatDoorTie
import Derived.Test.YtgadojhdajmidaaGreatDoorToldRun
import Derived.Test.YtgadojhdajmidaaGreatDoorCloO
import Derived.LaidOnce
import Derived.Test.YtgadojhdajmidaaGreatDoorFactsA
import Derived.Test.YtgadojhdajmidaaGreatDoorFactsB
import Derived.Test.YtgadojhdajmidaaGreatDoorFactsC
import Derived.Test.YtgadojhdajmidaaGreatDoorFactsD
import Derived.Test.YtgadojhdajmidaaGreatDoorFactsE
set_option linter.unusedSimpArgs false
set_option linter.unusedVariables false
namespace Go.Proofs.YtgadojhdajmidaaGreatDoor
open Go.ChangeShapes Go.WideShapes Go.ChangeAt Go.RowKit Go.Sep

theorem own : ownKnob Tryz.prog.godebug = none := by kernel_rfl

theorem maxlen {W : World} (h : W.ShapedOpen Tryz.prog) : ∃ m, W.heap[0]? = some (.cells #[.int .i64 m] 3) :=
  shaped_block (zero := #[.int .i64 0]) h (by rw [Tryz.globals_size]; decide) (by kernel_rfl) rfl (by kernel_rfl) (by kernel_rfl) Tryz.underlying3

set_option maxRecDepth 100000 in
theorem lifted (os : Os) (started : os.Started) (H : Type) (enc : TypeId × Value → H) :
    ReturnsInHanded {} Tryz.checked os 3 .any (fun w args => (Rows.toldNamesSpec.pre enc Tryz.prog Tryz.f3 [] false w args ∧ laidMetH Tryz.prog Rows.toldNamesRow.laid w) ∧ sizedMet enc Tryz.prog Tryz.f3 (OpenSpec.ofChange Rows.toldNamesSpec) false w args)
      (Rows.toldNamesSpec.post enc Tryz.prog Tryz.f3 false true false false) := by
  refine returnsInHanded_of_change_both (C := Tryz.checked) (X := fun w _ => laidMetH Tryz.prog Rows.toldNamesRow.laid w) (fun _ _ _ hh h => h.of_heap hh) own started (by kernel_rfl) Tryz.func3
    (ChangeSpec.witness_shaped (enc := enc) (C := Tryz.checked) (os := os) (X := fun w _ => laidMetH Tryz.prog Rows.toldNamesRow.laid w) false (World.laidAll Tryz.prog os Rows.toldNamesRow.laid) #[] 8 (World.laidAll_os _ _ _)
      (World.shaped_of_ZipB (by kernel_rfl) (by kernel_rfl)) (by kernel_rfl) (by kernel_rfl) (by kernel_rfl)
      (by rw [MakeChecks.laidMetH_plain _ _ _ (by kernel_rfl)]; exact laidMet_laidAll _ (by kernel_rfl) (by kernel_rfl))) ?_
  intro W base args ds gs before hval0 hW _ _ hL hsh _
  have hW' := hW
  obtain ⟨p, q, hA0, hV, rfl, _, _⟩ := hW
  have hA : DataW.TrodAll enc Tryz.prog W 0 (fun _ => true) true Tryz.f3.params.toList args.toList ds p := hA0
  rw [Tryz.params3] at hA
  obtain ⟨rfl, rfl, rfl⟩ := trodAll_none hA
  obtain ⟨rfl, rfl⟩ := trodVars_none hV
  obtain ⟨m, hm⟩ := maxlen hsh
  rcases told_run m 3 with ⟨_, h2⟩ | h2
  · refine (h2 W (sat_sG hm)).mono fun e W' ⟨σ', ⟨he, hG⟩, hs', hf⟩ => ?_
    subst he
    exact ⟨_, rfl, _, _, _, [], [], [], hW', trodAll_mk1 (shut_bool Tryz.underlying4 _), trodAll_mk0, rfl, kept_of_fr (sat_sG hm) hs' hG hf _, fun h => by cases h⟩
  · obtain ⟨v, w', σ', h3, _⟩ := h2 W (sat_sG hm)
    rw [Tryz.call3] at h3
    cases h3

theorem and_t {a b : Bool} (h : a = true) (h2 : b = true) : (a && b) = true := by rw [h, h2]; rfl

set_option maxRecDepth 100000 in
theorem facts : joinedFacts Tryz.prog 3 Tryz.f3 Rows.toldNamesSpec Rows.toldNamesRow = true := (and_t (and_t (and_t (and_t (and_t (and_t (and_t (and_t (and_t (and_t (and_t (and_t (and_t (and_t (and_t (and_t (and_t (and_t (and_t (and_t (and_t (and_t (and_t (and_t (and_t (and_t (and_t (and_t (and_t (and_t (and_t fact0 fact1) fact2) fact3) fact4) fact5) fact6) fact7) fact8) fact9) fact10) fact11) fact12) fact13) fact14) fact15) fact16) fact17) fact18) fact19) fact20) fact21) fact22) fact23) fact24) fact25) fact26) fact27) fact28) fact29) fact30) fact31)

theorem told_holds : Rows.ToldNamesSaid :=
  OpenClaim.holds_of_wide 3 Tryz.f3 rfl rfl rfl rfl rfl rfl rfl ⟨rfl, rfl, rfl, rfl, rfl⟩ rfl rfl rfl rfl rfl (by kernel_rfl) Tryz.func3 facts
    (of_decide_eq_true (by kernel_rfl)) (by unfold Func.isWrapper; first | (rw [if_pos (by decide +kernel)]; kernel_rfl) | (rw [if_neg (by decide +kernel)]; exact ⟨rfl, rfl⟩))
    (fun os started H enc _ => lifted os started H enc)

theorem told_card : Rows.ToldNamesCardSaid :=
  Claim7.holds_tied_plain_at .later [] [.data, .data, .data, .data, .pinned] true (true, "e2d334343e772fa87fe170ef9e57054e7d0adf666c2782cb2fe8a4a0c4e02e27") true
    told_holds (fun _ h => by cases h) (by kernel_rfl) (fun _ h => by cases h) toldNames_row_tie rfl ⟨rfl, rfl⟩ (by kernel_rfl) rfl
    (fun f fn hf hfn => by
      obtain rfl : f = 3 := Option.some.inj ((show Tryz.prog.funcNamed "reglet/regletlaw24.ToldNames" = some 3 by kernel_rfl).symm.trans hf) |>.symm
      obtain rfl : fn = Tryz.f3 := (Option.some.inj (Tryz.func3.symm.trans hfn)).symm
      exact ⟨by kernel_rfl, fun j t ht => by
        rw [Tryz.params3] at ht
        simp at ht⟩)
    (goes_none (by kernel_rfl) rfl)

#print axioms told_card
end Go.Proofs.YtgadojhdajmidaaGreatDoor
