/- From closed runs to a row without arguments. -/
import Derived.Test.YtgadojhdajmidaaGreatDoorCloM
import Derived.ProofKit
import Derived.Shelf.Vars
import Derived.SevenTiedAt
import Derived.LaidHandle
import Derived.Lay
set_option linter.unusedSimpArgs false
set_option linter.unusedVariables false
namespace Go.Sep
open Go.ChangeShapes Go.WideShapes Go.ChangeAt

/-- The wrap of a row whose condition and whose world's shape are handed on. -/
theorem returnsInHanded_of_change_both {H : Type} {enc : TypeId × Value → H} {a : Assume} {C : Checked} {os : Os} {f : FuncId} {fn : Func} {s : ChangeSpec} {conds : List PathCond} {apart fresh handsOn again : Bool} {X : World → Array Value → Prop}
    (hX : ∀ (w w' : World) (args : Array Value), w.heap = w'.heap → X w args → X w' args)
    (own : ownKnob C.prog.godebug = none) (started : os.Started) (noInit : C.prog.inits.idxOf? f = none) (hfn : C.prog.funcs[f]? = some fn)
    (witness : ∃ (w : World) (tape : Tape) (i : Input), w.os = os ∧ (w.forCall tape i).Shaped C.prog ∧ i.vars = [] ∧ Input.okWide C.prog (w.forCall tape i) .any w.heap.size f i ∧
      ((s.pre enc C.prog fn conds apart (w.forCall tape i).memory i.args ∧ X (w.forCall tape i).memory i.args) ∧ sizedMet enc C.prog fn (OpenSpec.ofChange s) apart (w.forCall tape i).memory i.args) ∧ a.holds C.prog (lone (Frame.enter C.prog f i.args .normal) [] (w.forCall tape i)))
    (contract : ∀ (W : World) (base : Nat) (args : Array Value) (ds gs : List (DataW H)) (before : List MemPlace),
      (∀ (j : Nat) t v, fn.params[j]? = some t → args[j]? = some v → Value.okWide C.prog W .any base t v) →
      DataW.Whole enc C.prog fn.params.toList s.vars apart W args.toList ds gs before →
      conds.all (PathCond.test C.prog ⟨fn.params.toList, ds, s.plain.varTypes C.prog, gs⟩) = true →
      (DataW.weightsEach C.prog (fn.params.toList ++ s.plain.varTypes C.prog) (ds ++ gs)).all (· ≤ reachBytes) = true → X W args → W.ShapedOpen C.prog →
      a.holds C.prog (lone (Frame.enter C.prog f args .normal) [] W) →
      Calls C.prog f args W fun e W' => ∃ v, e = .returned v ∧ s.post enc C.prog fn apart fresh handsOn again W args v W') :
    ReturnsInHanded a C os f .any (fun w args => (s.pre enc C.prog fn conds apart w args ∧ X w args) ∧ sizedMet enc C.prog fn (OpenSpec.ofChange s) apart w args) (s.post enc C.prog fn apart fresh handsOn again) := by
  refine returnsInHanded_of_calls own started noInit witness ?_
  intro w tape i _ hsh _ hok hpre hholds
  obtain ⟨_, _, _, fn', hfn', _, _, _, _, hval⟩ := hok
  have e : fn' = fn := Option.some.inj (hfn'.symm.trans hfn)
  subst e
  obtain ⟨⟨⟨ds, gs, before, hw, hc⟩, hx⟩, hz⟩ := hpre
  have hw' := DataW.Whole.of_heap (w' := w.forCall tape i) (by rfl) hw
  refine (contract (w.forCall tape i) w.heap.size i.args ds gs before hval hw' hc (hz.weights hw) (hX _ _ _ (by rfl) hx) hsh hholds).mono fun e W' ⟨v, he, hp⟩ => ?_
  subst he
  exact ChangeSpec.post_blind hp

/-- The library's variable holds some integer. -/
theorem shaped_block {P : Program} {w : World} {g : Nat} {t : TypeId} {zero : Array Value} (h : w.ShapedOpen P) (hg : g < P.globals.size)
    (h0 : ((begin P (fun _ _ => 0) default).world.heap[g]?).bind Obj.row? = some (zero, t)) (hz : zero.size = 1)
    (hb : P.buildable t = true) (hc : P.cellTypes P.depth t = some [t]) (hu : P.underlying t = some (.int .i64)) : ∃ m, w.heap[g]? = some (.cells #[.int .i64 m] t) := by
  obtain ⟨m, hm⟩ := Go.Proofs.cell_of_shapedOpen_int h hg h0 hz hb hc hu
  obtain ⟨cs, hh, hs, _⟩ := h.1 g zero t hg h0
  refine ⟨m, ?_⟩
  rw [hh]
  simp only [World.cell?, hh] at hm
  have h1 : cs.size = 1 := by rw [hs, hz]
  have h2 : cs[0]? = some (.int .i64 m) := by simpa using hm
  have h3 : cs = #[.int .i64 m] := by
    apply Array.ext
    · simp [h1]
    · intro i h4 h5
      have : i = 0 := by omega
      subst this
      rw [Array.getElem?_eq_getElem h4] at h2
      simpa using h2
  rw [h3]

theorem sat_sG {w : World} {G : Nat} {n : Int} {t : TypeId} (h : w.heap[G]? = some (.cells #[.int .i64 n] t)) : Sat w (sG G n t) := by
  intro b r hb
  by_cases hG : b = G
  · subst hG; rw [sG_same] at hb; cases hb; exact h
  · rw [sG_ne n t hG] at hb; cases hb

theorem kept_of_fr {W W' : World} {G : Nat} {n : Int} {t : TypeId} {σ' : SHeap} (hs : Sat W (sG G n t)) (hs' : Sat W' σ') (hG : σ' G = some (rowG n t)) (hf : Fr (sG G n t) σ' W W') (may : MemPlace → Prop) : W.keptBut W' may := by
  refine ⟨hf.os, hf.out, fun i hi => ?_⟩
  have hk : W'.heap[i]? = W.heap[i]? := by
    by_cases hiG : i = G
    · subst hiG
      have e1 : W.heap[i]? = _ := hs _ _ (sG_same i n t)
      have e2 : W'.heap[i]? = _ := hs' _ _ hG
      rw [e1, e2]
    · exact hf.keep i hi (sG_ne n t hiG)
  rw [hk]
  cases h : W.heap[i]? with
  | none => rfl
  | some o =>
    cases o <;> first
      | exact ⟨rfl, rfl, rfl, fun _ _ => rfl⟩
      | exact .inr ⟨rfl, rfl⟩
      | rfl

/-- No function starts a goroutine: so none does that is come to. -/
theorem goes_none {P : Program} {c : OpenClaim} (h : (P.funcs.toList.all fun f => !f.goes) = true) (hst : c.start = .entering) : false = c.goesBy P := by
  have h1 : ∀ f ∈ P.funcs.toList, f.goes = false := fun f hf => by simpa using List.all_eq_true.1 h f hf
  have h2 : ∀ g : Nat, (P.funcs[g]?).any Func.goes = false := by
    intro g
    cases hg : P.funcs[g]? with
    | none => rfl
    | some f => exact h1 f (by simpa using Array.mem_of_getElem? hg)
  have h3 : P.funcs.any Func.goes = false := by
    rw [← Array.any_toList]
    exact List.any_eq_false.2 fun f hf => by simp [h1 f hf]
  have h4 : ∀ f, P.goes f = false := by
    intro f
    simp only [Program.goes, h2, h3, Bool.and_false, Bool.or_false]
    simp
  unfold OpenClaim.goesBy Program.goesAt Program.goesFrom
  rw [hst]
  cases P.funcNamed c.func with
  | none => rfl
  | some f => simp [h4 f]

end Go.Sep
