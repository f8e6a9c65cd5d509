/- Regions: one operation after the other. -/
import Derived.Test.YtgadojhdajmidaaGreatDoorSepN
set_option linter.unusedSimpArgs false
set_option linter.unusedVariables false
namespace Go.Sep

def Env.put (e : Env) (d : Option Nat) (v : Value) : Env := match d with | some d => e.set d v | none => e

theorem EnvOk.put {e : Env} {a : Act} (h : EnvOk e a.tmps) {d : Option Nat} {v : Value} (hd : ∀ x, d = some x → x < a.tmps.size) : EnvOk (e.put d v) (a.put d v).tmps := by
  cases d with
  | none => exact h
  | some d =>
    have hd := hd d rfl
    intro t g x hx
    simp only [Env.put, Env.set] at hx
    simp only [Act.put]
    cases hb : Nat.beq t d with
    | true =>
      rw [hb] at hx
      cases hx
      obtain rfl := Nat.eq_of_beq_eq_true hb
      simp [hd]
    | false =>
      rw [hb] at hx
      have hne : d ≠ t := fun e => by subst e; simp at hb
      simp only [cond_false] at hx
      split at hx
      · rename_i u b y hy
        cases hu : Nat.beq u d with
        | true => rw [hu] at hx; cases hx
        | false =>
          rw [hu] at hx
          cases hx
          have hud : d ≠ u := fun e => by subst e; simp at hu
          have := h t _ _ hy
          simp only at this
          intro hub
          rw [Array.getElem?_setIfInBounds_ne hud] at hub
          rw [Array.getElem?_setIfInBounds_ne hne]
          exact this hub
      · rename_i o ho
        have := h t g x hx
        cases g with
        | none => simpa only [Array.getElem?_setIfInBounds_ne hne] using this
        | some ub => exact absurd hx (ho ub.1 ub.2 x)

/-- What is asked behind a call. -/
def retW (Q : Fin → SHeap → Prop) (K : Value → SHeap → Prop) : Ending → SHeap → Prop
  | .returned v, σ => K v σ
  | .panicked ch, σ => Q (.pan ch) σ
  | .outgrown, _ => False

def panW (v : Value) (K : Value → Prop) : Prop := match v with | .iface t x => K (.iface t x) | _ => False

def dstOk (n : Nat) (d : Option Nat) : Bool := match d with | some d => Nat.blt d n | none => true

/-- One operation. -/
def opW (P : Program) (T : Nat → Option TInf) (n : Nat) (e : Env) (o : Oper) (σ : SHeap) (Q : Fin → SHeap → Prop) (K : Env → SHeap → Prop) : Prop :=
  bif dstOk n o.dst then
    match o.op with
    | .call { callee := .value f, args, .. } => optW (e.val f) fun fv => valsW e args.toList fun vs => CallV P fv vs (retW Q fun v σ => K (e.put o.dst v) σ) σ
    | .panic x => optW (e.val x) fun v => panW v fun v => Q (.pan [{ v, recovered := false }]) σ
    | op => efOp T e op σ fun v σ => K (e.put o.dst v) σ
  else False

/-- The blocks of the marks are taken up. -/
theorem unwind_marks {P : Program} : ∀ (rs : List Nat) (fr : Frame) (cs : List Frame) (w : World), (fr.mode matches .run) = false → fr.defers = marks rs → rs.Nodup → (∀ r ∈ rs, w.heap[r]? = some (.deferred (some []))) →
    ∃ w', Steps P (lone fr cs w) (lone { fr with defers := [] } cs w') ∧ w'.heap.size = w.heap.size ∧ (∀ b, b ∉ rs → w'.heap[b]? = w.heap[b]?) ∧ w'.tape = w.tape ∧ w'.os = w.os ∧ w'.output = w.output
  | [], fr, cs, w, _, hd, _, _ => ⟨w, by
      have : { fr with defers := [] } = fr := by cases fr; simp [marks] at hd; subst hd; rfl
      rw [this]; exact .refl _ _, rfl, fun _ _ => rfl, rfl, rfl, rfl⟩
  | r :: rs, fr, cs, w, hm, hd, hn, ho => by
    have h1 := ho r (by simp)
    have hlt := (Array.getElem?_eq_some_iff.1 h1).1
    obtain ⟨hr, hn'⟩ := List.nodup_cons.1 hn
    have htake : (Instr.takeDeferred r).run P w = .ok [] { w with heap := w.heap.setIfInBounds r (.deferred none) } := by
      simp [Instr.takeDeferred, getObj, setObj, Sem.run, h1]
    have hst : step P (lone fr cs w) = .next (lone { fr with defers := marks rs } cs { w with heap := w.heap.setIfInBounds r (.deferred none) }) := by
      refine step_lone_go ?_
      have hd' : fr.defers = { target := .collected r, args := #[] } :: marks rs := hd
      cases hmm : fr.mode with
      | run => rw [hmm] at hm; simp at hm
      | returning => simp [stepG, unwind, hmm, hd', Sem.runT_eq, htake]
      | panicking ch => simp [stepG, unwind, hmm, hd', Sem.runT_eq, htake]
    obtain ⟨w', s1, s2, s3, s4, s5, s6⟩ := unwind_marks rs { fr with defers := marks rs } cs { w with heap := w.heap.setIfInBounds r (.deferred none) } hm rfl hn' (fun q hq => by
      have hne : r ≠ q := fun e => hr (e ▸ hq)
      rw [Array.getElem?_setIfInBounds_ne hne]; exact ho q (by simp [hq]))
    refine ⟨w', .head hst s1, by simpa using s2, fun b hb => ?_, s4, s5, s6⟩
    rw [s3 b (fun h => hb (by simp [h]))]
    have hne : r ≠ b := fun e => hb (by simp [e])
    exact Array.getElem?_setIfInBounds_ne hne

/-- A frame that panics. -/
theorem goal_pan {P : Program} {b : Frame} {cs : List Frame} {w : World} {a : Act} {rs : List Nat} {todo : List Item} {ch : List PanicEntry} {σ : SHeap} {m : Machine} (ha : a.defers = marks rs) (hm : Marks rs σ w) (hs : Sat w σ)
    (hfn : ∃ fn, P.funcs[b.fn]? = some fn) (h : Steps P m (lone { b.atR a todo with mode := .panicking ch } cs w)) :
    ∃ w', Sat w' σ ∧ FrM rs σ σ w w' ∧ Goal P b cs m w' (.pan ch) := by
  obtain ⟨w', s1, s2, s3, s4, s5, s6⟩ := unwind_marks (P := P) rs { b.atR a todo with mode := .panicking ch } cs w rfl (by simpa [Frame.atR] using ha) hm.nodup hm.obj
  have hsat : Sat w' σ := fun c r hc => Row.sat_congr (s3 c (fun hcr => by rw [hm.free c hcr] at hc; cases hc)) (hs c r hc)
  refine ⟨w', hsat, ⟨by omega, fun c _ _ hc => s3 c hc, fun c hc => .inl hc, s4, s5, s6⟩, _, h.trans s1, rfl, rfl, rfl, ?_⟩
  simpa [Frame.atR] using hfn

theorem calls_steps {P : Program} {f : FuncId} {args : List Value} {w : World} {R : Ending → SHeap → Prop} {σ : SHeap} (h : Tri P f args R σ) (hs : Sat w σ) (hout : ∀ σ, ¬ R .outgrown σ) (c : Frame) (cs : List Frame) :
    (∃ v w' σ', R (.returned v) σ' ∧ Sat w' σ' ∧ Fr σ σ' w w' ∧ Steps P (lone (Frame.enter P f args.toArray .normal) (c :: cs) w) (lone (c.finish v) cs w')) ∨
    (∃ ch w' σ', R (.panicked ch) σ' ∧ Sat w' σ' ∧ Fr σ σ' w w' ∧ Steps P (lone (Frame.enter P f args.toArray .normal) (c :: cs) w) (lone (c.raise ch) cs w')) := by
  obtain ⟨e, w', fr, ⟨σ', hR, h1, h2⟩, hc, _, hl⟩ := h w hs (c :: cs)
  cases e with
  | returned v => exact .inl ⟨v, w', σ', hR, h1, h2, Steps.trans hc (.one (step_leave_returned hl))⟩
  | panicked ch => exact .inr ⟨ch, w', σ', hR, h1, h2, Steps.trans hc (.one (step_leave_panicked hl))⟩
  | outgrown => exact absurd hR (hout _)

/-- A call of a function value, made by an operation. -/
theorem callV_steps {P : Program} {fv : Value} {args : List Value} {R : Ending → SHeap → Prop} {σ : SHeap} (h : CallV P fv args R σ) {w : World} (hs : Sat w σ) (hout : ∀ σ, ¬ R .outgrown σ)
    {fr : Frame} {cs : List Frame} (hx : (stepG P true { frame := fr, callers := cs, status := .running, dying := none } w).bare =
      (stepG.apply P true fr cs none (do let d ← Deferred.ofValue fv args.toArray; invoke d.target d.args) w).bare) (ht : (∃ ops l k, fr.todo = .inRegion ops l :: k) ∨ ∃ l k, fr.todo = .inRangeFunc l :: k) :
    (∃ v w' σ', R (.returned v) σ' ∧ Sat w' σ' ∧ Fr σ σ' w w' ∧ Steps P (lone fr cs w) (lone (fr.finish v) cs w')) ∨
    (∃ ch w' σ', R (.panicked ch) σ' ∧ Sat w' σ' ∧ Fr σ σ' w w' ∧ Steps P (lone fr cs w) (lone (fr.raise ch) cs w')) := by
  unfold CallV at h
  split at h
  · rename_i f first caps
    have hrun : ∀ w, ((do let d ← Deferred.ofValue (.func (.func f) first caps) args.toArray; invoke d.target d.args) : Sem Next).run P w = (callFunc f (first.toList ++ args ++ caps.toList).toArray).run P w := by
      intro w
      simp only [Deferred.ofValue, Sem.run_bind, Sem.run_pure, Result.andThen_ok, invoke]
      have : first ++ args.toArray ++ caps = (first.toList ++ args ++ caps.toList).toArray := by apply Array.toList_inj.1; simp
      rw [this]
    rcases h with ⟨henter, htri⟩ | h
    · have hst : step P (lone fr cs w) = .next (lone (Frame.enter P f (first.toList ++ args ++ caps.toList).toArray .normal) (fr :: cs) w) := by
        refine step_lone_go ?_
        rw [hx]
        rcases ht with ⟨_, _, _, ht⟩ | ⟨_, _, ht⟩ <;>
          (simp only [stepG.apply, Sem.runT_eq, hrun, henter, if_true, GStep.bare_after, ht]; rfl)
      rcases calls_steps htri hs hout fr cs with ⟨v, w', σ', h1, h2, h3, h4⟩ | ⟨v, w', σ', h1, h2, h3, h4⟩
      · exact .inl ⟨v, w', σ', h1, h2, h3, .head hst h4⟩
      · exact .inr ⟨v, w', σ', h1, h2, h3, .head hst h4⟩
    · obtain ⟨v, w', σ', hr, h1, h2, h3⟩ := h w hs
      refine .inl ⟨v, w', σ', h1, h2, h3, .one (step_lone_go ?_)⟩
      rw [hx]
      simp only [stepG.apply, Sem.runT_eq, hrun, hr, if_true, GStep.bare_after]
      rfl
  · rename_i l first caps
    have hrun : ∀ w, ((do let d ← Deferred.ofValue (.func (.yield l) first caps) args.toArray; invoke d.target d.args) : Sem Next).run P w = (Instr.yield l (first.toList ++ args).toArray).run P w := by
      intro w
      simp only [Deferred.ofValue, Sem.run_bind, Sem.run_pure, Result.andThen_ok, invoke]
      have : first ++ args.toArray = (first.toList ++ args).toArray := by apply Array.toList_inj.1; simp
      rw [this]
    obtain ⟨f, tmps, as, body, hy, hround⟩ := h w hs
    obtain ⟨b, w', σ', h1, h2, h3, h4⟩ := hround fr cs
    refine .inl ⟨_, w', σ', h1, h2, h3, .head (step_lone_go ?_) h4⟩
    rw [hx]
    rcases ht with ⟨_, _, _, ht⟩ | ⟨_, _, ht⟩ <;>
      (simp only [stepG.apply, Sem.runT_eq, hrun, hy, if_true, GStep.bare_after]; rfl)
  · exact h.elim

end Go.Sep
