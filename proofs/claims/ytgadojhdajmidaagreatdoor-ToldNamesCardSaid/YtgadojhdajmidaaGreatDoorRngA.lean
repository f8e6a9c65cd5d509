/- Ranges over functions. -/
import Derived.Test.YtgadojhdajmidaaGreatDoorCloH
set_option linter.unusedSimpArgs false
set_option linter.unusedVariables false
namespace Go.Sep

theorem Sat.none_ge {w : World} {σ : SHeap} (hs : Sat w σ) {b : Nat} (h : w.heap.size ≤ b) : σ b = none := by
  cases hc : σ b with
  | none => rfl
  | some r => have := hs.lt (b := b) (by rw [hc]; simp); omega

/-- A call of a function value, made by a statement. -/
theorem callV_steps' {P : Program} {fv : Value} {args : List Value} {R : Ending → SHeap → Prop} {σ : SHeap} (h : CallV P fv args R σ) {w w0 : World} (hs : Sat w σ) (hout : ∀ σ, ¬ R .outgrown σ)
    {fr fr0 : Frame} {cs : List Frame} (hx : (stepG P true { frame := fr0, callers := cs, status := .running, dying := none } w0).bare =
      (stepG.apply P true fr cs none (do let d ← Deferred.ofValue fv args.toArray; invoke d.target d.args) w).bare) (ht : (∃ ops l k, fr.todo = .inRegion ops l :: k) ∨ ∃ l k, fr.todo = .inRangeFunc l :: k) :
    (∃ v w' σ', R (.returned v) σ' ∧ Sat w' σ' ∧ Fr σ σ' w w' ∧ Steps P (lone fr0 cs w0) (lone (fr.finish v) cs w')) ∨
    (∃ ch w' σ', R (.panicked ch) σ' ∧ Sat w' σ' ∧ Fr σ σ' w w' ∧ Steps P (lone fr0 cs w0) (lone (fr.raise ch) cs w')) := by
  unfold CallV at h
  split at h
  · rename_i f first caps
    have hrun : ∀ w, ((do let d ← Deferred.ofValue (.func (.func f) first caps) args.toArray; invoke d.target d.args) : Sem Next).run P w = (callFunc f (first.toList ++ args ++ caps.toList).toArray).run P w := by
      intro w
      simp only [Deferred.ofValue, Sem.run_bind, Sem.run_pure, Result.andThen_ok, invoke]
      have : first ++ args.toArray ++ caps = (first.toList ++ args ++ caps.toList).toArray := by apply Array.toList_inj.1; simp
      rw [this]
    rcases h with ⟨henter, htri⟩ | h
    · have hst : step P (lone fr0 cs w0) = .next (lone (Frame.enter P f (first.toList ++ args ++ caps.toList).toArray .normal) (fr :: cs) w) := by
        refine step_lone_go ?_
        rw [hx]
        rcases ht with ⟨_, _, _, ht⟩ | ⟨_, _, ht⟩ <;>
          (simp only [stepG.apply, Sem.runT_eq, hrun, henter, if_true, GStep.bare_after, ht]; rfl)
      rcases calls_steps htri hs hout fr cs with ⟨v, w', σ', h1, h2, h3, h4⟩ | ⟨v, w', σ', h1, h2, h3, h4⟩
      · exact .inl ⟨v, w', σ', h1, h2, h3, .head hst h4⟩
      · exact .inr ⟨v, w', σ', h1, h2, h3, .head hst h4⟩
    · obtain ⟨v, w', σ', hr, h1, h2, h3⟩ := h w hs
      refine .inl ⟨v, w', σ', h1, h2, h3, .one (step_lone_go ?_)⟩
      rw [hx]
      simp only [stepG.apply, Sem.runT_eq, hrun, hr, if_true, GStep.bare_after]
      rfl
  · rename_i l first caps
    have hrun : ∀ w, ((do let d ← Deferred.ofValue (.func (.yield l) first caps) args.toArray; invoke d.target d.args) : Sem Next).run P w = (Instr.yield l (first.toList ++ args).toArray).run P w := by
      intro w
      simp only [Deferred.ofValue, Sem.run_bind, Sem.run_pure, Result.andThen_ok, invoke]
      have : first ++ args.toArray = (first.toList ++ args).toArray := by apply Array.toList_inj.1; simp
      rw [this]
    obtain ⟨f, tmps, as, body, hy, hround⟩ := h w hs
    obtain ⟨b, w', σ', h1, h2, h3, h4⟩ := hround fr cs
    refine .inl ⟨_, w', σ', h1, h2, h3, .head (step_lone_go ?_) h4⟩
    rw [hx]
    rcases ht with ⟨_, _, _, ht⟩ | ⟨_, _, ht⟩ <;>
      (simp only [stepG.apply, Sem.runT_eq, hrun, hy, if_true, GStep.bare_after]; rfl)
  · exact h.elim

/-- What is asked when the function that was ranged over has ended. -/
def rangeEnd (P : Program) (f : FuncId) (ro : Option Nat) (n : Nat) (k : List Item) (e : Env) (Q : Fin → SHeap → Prop) (l : Nat) : Ending → SHeap → Prop
  | .returned _, σ => ∃ r, loopAt σ l = some r ∧ (r.state == .busy) = false ∧ Run P f ro n ((r.pending.map Item.code).toList ++ k) e Q (σ.set l (.obj (.loop { r with state := .exhausted })))
  | .panicked ch, σ => Q (.pan ch) σ
  | .outgrown, _ => False

theorem newObj_run {P : Program} {w : World} {o : Obj} : (newObj o).run P w = .ok w.heap.size { w with heap := w.heap.push o } := by
  simp [newObj, Sem.run]

theorem run_rangeFunc {P : Program} {f : FuncId} (hfn : ∃ fn, P.funcs[f]? = some fn) {ro : Option Nat} {n : Nat} {k : List Item} {e : Env} {Q : Fin → SHeap → Prop} {σ : SHeap} {g : Operand} {ps : Array Tmp} {assign body : Code} {fv : Value}
    (hg : e.val g = some fv) (hro : ∀ l0, ro = some l0 → ∃ r0, loopAt σ l0 = some r0)
    (h : ∀ l r, σ l = none → LoopIs r f n ps.toList assign body e → r.state = .ready → r.pending = none → CallV P fv [.func (.yield l) #[] #[]] (rangeEnd P f ro n k e Q l) (σ.set l (.obj (.loop r)))) :
    Run P f ro n (.code (.rangeFunc g ps assign body) :: k) e Q σ := by
  intro b cs w tmps rs h1 h2 h3 h4 h5 h6 h7 h8
  -- the record, and the mark
  have enter : ∃ (l : Nat) (r : Loop) (rs1 : List Nat) (w1 : World), (Instr.enterLoop b.fn tmps ps assign body b.roundOf).run P w = .ok (l, marks rs1) w1 ∧ σ l = none ∧ LoopIs r f n ps.toList assign body e ∧ r.state = .ready ∧ r.pending = none ∧
      Sat w1 (σ.set l (.obj (.loop r))) ∧ Marks (rs1 ++ rs) (σ.set l (.obj (.loop r))) w1 ∧ FrM rs σ (σ.set l (.obj (.loop r))) w w1 ∧ (ro.isSome = true → rs1 = []) ∧ (∀ x ∈ rs1, w.heap.size ≤ x) := by
    have hloop : ∀ d, LoopIs { state := .ready, pending := none, fn := b.fn, tmps := tmps, params := ps, assign := assign, body := body, defers := d } f n ps.toList assign body e :=
      fun d => ⟨h1, rfl, rfl, rfl, h4, h5⟩
    cases hr : ro with
    | none =>
      refine ⟨w.heap.size + 1, _, [w.heap.size], { w with heap := (w.heap.push (.deferred (some []))).push (.loop { state := .ready, pending := none, fn := b.fn, tmps := tmps, params := ps, assign := assign, body := body, defers := w.heap.size }) }, ?_, h8.none_ge (by omega), hloop w.heap.size, rfl, rfl, ?_, ?_, ?_, (fun h => by cases h), fun x hx => by simp at hx; omega⟩
      · rw [h3, hr]
        simp only [Instr.enterLoop, Sem.run_bind, newObj_run, Result.andThen_ok, Sem.run_pure, Array.size_push]
        rfl
      · intro c x hx
        by_cases hc : c = w.heap.size + 1
        · subst hc
          rw [SHeap.set_same] at hx; cases hx
          show ((w.heap.push _).push _)[w.heap.size + 1]? = _
          rw [Array.getElem?_push]; simp
        · rw [SHeap.set_ne _ _ hc] at hx
          have hlt := h8.lt (b := c) (by rw [hx]; simp)
          refine Row.sat_congr ?_ (h8 c x hx)
          show ((w.heap.push _).push _)[c]? = w.heap[c]?
          rw [Array.getElem?_push, if_neg (by simp; omega), Array.getElem?_push, if_neg (by omega)]
      · have hlt : ∀ x ∈ rs, x < w.heap.size := fun x hx => (Array.getElem?_eq_some_iff.1 (h6.obj x hx)).1
        refine ⟨?_, fun x hx => ?_, fun x hx => ?_⟩
        · simp only [List.singleton_append, List.nodup_cons]
          exact ⟨fun hm => by have := hlt _ hm; omega, h6.nodup⟩
        · simp only [List.singleton_append, List.mem_cons] at hx
          rcases hx with rfl | hx
          · rw [SHeap.set_ne _ _ (by omega)]; exact h8.none_ge (Nat.le_refl _)
          · rw [SHeap.set_ne _ _ (by have := hlt x hx; omega)]; exact h6.free x hx
        · simp only [List.singleton_append, List.mem_cons] at hx
          rcases hx with rfl | hx
          · show ((w.heap.push _).push _)[w.heap.size]? = _
            rw [Array.getElem?_push, if_neg (by simp), Array.getElem?_push, if_pos rfl]
          · have := hlt x hx
            show ((w.heap.push _).push _)[x]? = _
            rw [Array.getElem?_push, if_neg (by simp; omega), Array.getElem?_push, if_neg (by omega)]; exact h6.obj x hx
      · refine ⟨by simp; omega, fun c hc _ _ => ?_, fun c hc => ?_, rfl, rfl, rfl⟩
        · show ((w.heap.push _).push _)[c]? = _
          rw [Array.getElem?_push, if_neg (by simp; omega), Array.getElem?_push, if_neg (by omega)]
        · by_cases hcl : c = w.heap.size + 1
          · right; omega
          · rw [SHeap.set_ne _ _ hcl] at hc; exact .inl hc
    | some l0 =>
      obtain ⟨r0, hr0⟩ := hro l0 hr
      have hl0 := loopAt_some hr0
      have hw0 : w.heap[l0]? = some (.loop r0) := h8 l0 _ hl0
      obtain ⟨hrs, _⟩ := h7 (by rw [hr]; rfl)
      subst hrs
      refine ⟨w.heap.size, _, [], { w with heap := w.heap.push (.loop { state := .ready, pending := none, fn := b.fn, tmps := tmps, params := ps, assign := assign, body := body, defers := r0.defers }) }, ?_, h8.none_ge (Nat.le_refl _), hloop r0.defers, rfl, rfl, ?_, ⟨List.nodup_nil, by simp, by simp⟩, ?_, fun _ => rfl, by simp⟩
      · rw [h3, hr]
        have hg : (Instr.getLoop l0).run P w = .ok r0 w := by simp [Instr.getLoop, getObj, Sem.run, hw0]
        simp only [Instr.enterLoop, Sem.run_bind, hg, newObj_run, Result.andThen_ok, Sem.run_pure]
        rfl
      · intro c x hx
        by_cases hc : c = w.heap.size
        · subst hc
          rw [SHeap.set_same] at hx; cases hx
          show (w.heap.push _)[w.heap.size]? = _
          rw [Array.getElem?_push, if_pos rfl]
        · rw [SHeap.set_ne _ _ hc] at hx
          have hlt := h8.lt (b := c) (by rw [hx]; simp)
          refine Row.sat_congr ?_ (h8 c x hx)
          show (w.heap.push _)[c]? = w.heap[c]?
          rw [Array.getElem?_push, if_neg (by omega)]
      · refine ⟨by simp, fun c hc _ _ => ?_, fun c hc => ?_, rfl, rfl, rfl⟩
        · show (w.heap.push _)[c]? = _
          rw [Array.getElem?_push, if_neg (by omega)]
        · by_cases hcl : c = w.heap.size
          · right; omega
          · rw [SHeap.set_ne _ _ hcl] at hc; exact .inl hc
  obtain ⟨l, r, rs1, w1, e1, e2, e3, e4, e5, e6, e7, e8, e9, e10⟩ := enter
  have hmk : marks rs1 ++ marks rs = marks (rs1 ++ rs) := by simp [marks]
  have hcall := h l r e2 e3 e4 e5
  have hfb : ∃ fn, P.funcs[b.fn]? = some fn := h1 ▸ hfn
  have hx : (stepG P true { frame := b.atR ⟨tmps, marks rs⟩ (.code (.rangeFunc g ps assign body) :: k), callers := cs, status := .running, dying := none } w).bare =
      (stepG.apply P true (b.atR ⟨tmps, marks (rs1 ++ rs)⟩ (.inRangeFunc l :: k)) cs none (do let d ← Deferred.ofValue fv [Value.func (.yield l) #[] #[]].toArray; invoke d.target d.args) w1).bare := by
    have hev := Frame.eval_atR b ⟨tmps, marks (rs1 ++ rs)⟩ (.inRangeFunc l :: k)
    have hgv : Act.eval ⟨tmps, marks (rs1 ++ rs)⟩ g = fv := Env.val_ok (a := ⟨tmps, marks (rs1 ++ rs)⟩) h5 hg
    have e1' : (Instr.enterLoop b.fn tmps ps assign body b.roundOf).run P w = .ok (l, marks rs1) w1 := e1
    simp only [Frame.atR] at hev ⊢
    have hcv : Act.eval ⟨tmps, marks (rs1 ++ rs)⟩ (.const (.func (.yield l) #[] #[])) = .func (.yield l) #[] #[] := rfl
    simp [stepG, stepG.exec, Sem.runT_eq, e1', GStep.bare_after, hmk, hev, resolve, hgv, hcv]
  have after : ∀ {w'}, Fr (σ.set l (.obj (.loop r))) (σ.set l (.obj (.loop r))) w1 w' → True := fun _ => trivial
  have frm : ∀ {σ' w'}, FrM (rs1 ++ rs) (σ.set l (.obj (.loop r))) σ' w1 w' → FrM rs σ σ' w w' := by
    intro σ' w' hf
    refine ⟨Nat.le_trans e8.size hf.size, fun c hc hn hcr => ?_, fun c hc => ?_, hf.tape.trans e8.tape, hf.os.trans e8.os, hf.out.trans e8.out⟩
    · have hcl : c ≠ l := by
        intro e; subst e
        rcases e8.dom c (by rw [SHeap.set_same]; simp) with h | h
        · exact h hn
        · omega
      rw [hf.keep c (Nat.lt_of_lt_of_le hc e8.size) (by rw [SHeap.set_ne _ _ hcl]; exact hn) (by
        rw [List.mem_append]; rintro (hm | hm)
        · have := e10 c hm; omega
        · exact hcr hm), e8.keep c hc hn hcr]
    · rcases hf.dom c hc with h | h
      · exact e8.dom c h
      · exact .inr (Nat.le_trans e8.size h)
  rcases callV_steps' hcall e6 (fun _ h => h) hx (.inr ⟨_, _, rfl⟩) with ⟨v, w', σ', hq, s1, s2, s3⟩ | ⟨ch, w', σ', hq, s1, s2, s3⟩
  · rw [finish_atR_inRangeFunc] at s3
    obtain ⟨r', hl', hst, hrun⟩ := hq
    have hl2 := loopAt_some hl'
    have hw : w'.heap[l]? = some (.loop r') := s1 l _ hl2
    obtain ⟨w2, t1, t2, t3⟩ := run_setObj (P := P) s1 hl2 (by intro c T fz h; cases h) (.loop { r' with state := .exhausted })
    have hend : (Instr.endLoop l).run P w' = .ok r'.pending w2 := by
      have hg : (Instr.getLoop l).run P w' = .ok r' w' := by simp [Instr.getLoop, getObj, Sem.run, hw]
      simp only [Instr.endLoop, Sem.run_bind, hg, Result.andThen_ok, hst]
      simp [t1, Result.andThen_ok]
    obtain ⟨o, w3, σ3, hq3, u1, u2, u3⟩ := hrun b cs w2 tmps (rs1 ++ rs) h1 h2 h3 h4 h5 ((e7.next s2).next t3) (fun hr => by
      obtain ⟨q1, q2⟩ := h7 hr
      exact ⟨by rw [e9 hr, q1]; rfl, q2⟩) t2
    exact ⟨o, w3, σ3, hq3, u1, frm ((FrM.of (s2.trans t3)).trans u2), u3.steps (s3.trans (.one (stepR_endRangeFunc hend)))⟩
  · rw [Frame.raise_atR] at s3
    obtain ⟨w2, t1, t2, t3⟩ := goal_pan (P := P) (b := b) (cs := cs) (a := ⟨tmps, marks (rs1 ++ rs)⟩) rfl (e7.next s2) s1 hfb s3
    exact ⟨_, w2, σ', hq, t1, frm ((FrM.of s2).trans t2), t3⟩

end Go.Sep
