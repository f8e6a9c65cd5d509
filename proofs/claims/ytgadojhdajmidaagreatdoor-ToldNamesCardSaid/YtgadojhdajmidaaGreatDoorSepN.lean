/- Runs of a frame's rest, calls and rounds over a symbolic heap. -/
import Derived.Test.YtgadojhdajmidaaGreatDoorSepM
import Derived.RangeFuncIn
set_option linter.unusedSimpArgs false
set_option linter.unusedVariables false
namespace Go.Sep

/-! ### Judgements -/

def Tri (P : Program) (f : FuncId) (args : List Value) (R : Ending → SHeap → Prop) (σ : SHeap) : Prop :=
  ∀ w, Sat w σ → Calls P f args.toArray w fun e w' => ∃ σ', R e σ' ∧ Sat w' σ' ∧ Fr σ σ' w w'

/-- A call of a function: of one with a body, or of one that the model answers itself. -/
def CallF (P : Program) (f : FuncId) (args : List Value) (R : Ending → SHeap → Prop) (σ : SHeap) : Prop :=
  ((∀ w, (callFunc f args.toArray).run P w = .ok (.enter f args.toArray) w) ∧ Tri P f args R σ) ∨
  ∀ w, Sat w σ → ∃ v w' σ', (callFunc f args.toArray).run P w = .ok (.value v) w' ∧ R (.returned v) σ' ∧ Sat w' σ' ∧ Fr σ σ' w w'

/-- A call of yield: a round of the loop l. -/
def RoundW (P : Program) (l : Nat) (args : List Value) (R : Ending → SHeap → Prop) (σ : SHeap) : Prop :=
  ∀ w, Sat w σ → ∃ f tmps assign body, (Instr.yield l args.toArray).run P w = .ok (.round l f tmps assign body) w ∧
    ∀ c cs, ∃ b w' σ', R (.returned (.bool b)) σ' ∧ Sat w' σ' ∧ Fr σ σ' w w' ∧
      Steps P (lone (Frame.round l f tmps assign body .normal) (c :: cs) w) (lone (c.finish (.bool b)) cs w')

/-- A call of a function value. -/
def CallV (P : Program) (fv : Value) (args : List Value) (R : Ending → SHeap → Prop) (σ : SHeap) : Prop :=
  match fv with
  | .func (.func f) first caps => CallF P f (first.toList ++ args ++ caps.toList) R σ
  | .func (.yield l) first _ => RoundW P l (first.toList ++ args) R σ
  | _ => False

inductive Fin where
  | ret (v : Value)
  | pan (ch : List PanicEntry)
  | rnd (b : Bool)

def Goal (P : Program) (b : Frame) (cs : List Frame) (m : Machine) (w' : World) : Fin → Prop
  | .ret v => ∃ fr, Steps P m (lone fr cs w') ∧ fr.fn = b.fn ∧ fr.leaving P w' (.returned v)
  | .pan ch => ∃ fr, Steps P m (lone fr cs w') ∧ fr.fn = b.fn ∧ fr.leaving P w' (.panicked ch)
  | .rnd bb => ∃ c cs', cs = c :: cs' ∧ Steps P m (lone (c.finish (.bool bb)) cs' w')

theorem Goal.steps {P : Program} {b : Frame} {cs : List Frame} {m m1 : Machine} {w' : World} {o : Fin} (h : Steps P m m1) (g : Goal P b cs m1 w' o) : Goal P b cs m w' o := by
  cases o with
  | ret v => obtain ⟨fr, h1, h2⟩ := g; exact ⟨fr, h.trans h1, h2⟩
  | pan v => obtain ⟨fr, h1, h2⟩ := g; exact ⟨fr, h.trans h1, h2⟩
  | rnd v => obtain ⟨c, cs', h1, h2⟩ := g; exact ⟨c, cs', h1, h.trans h2⟩

def marks (rs : List Nat) : List Deferred := rs.map fun r => { target := .collected r, args := #[] }

structure Marks (rs : List Nat) (σ : SHeap) (w : World) : Prop where
  nodup : rs.Nodup
  free : ∀ r ∈ rs, σ r = none
  obj : ∀ r ∈ rs, w.heap[r]? = some (.deferred (some []))

/-- What a run may have done beside the blocks rs. -/
structure FrM (rs : List Nat) (σ σ' : SHeap) (w w' : World) : Prop where
  size : w.heap.size ≤ w'.heap.size
  keep : ∀ b, b < w.heap.size → σ b = none → b ∉ rs → w'.heap[b]? = w.heap[b]?
  dom : ∀ b, σ' b ≠ none → σ b ≠ none ∨ w.heap.size ≤ b
  tape : w'.tape = w.tape
  os : w'.os = w.os
  out : w'.output = w.output

theorem FrM.of {rs : List Nat} {σ σ' : SHeap} {w w' : World} (h : Fr σ σ' w w') : FrM rs σ σ' w w' := ⟨h.size, fun b h1 h2 _ => h.keep b h1 h2, h.dom, h.tape, h.os, h.out⟩

theorem FrM.trans {rs : List Nat} {σ σ1 σ2 : SHeap} {w w1 w2 : World} (h : FrM rs σ σ1 w w1) (h' : FrM rs σ1 σ2 w1 w2) : FrM rs σ σ2 w w2 where
  size := Nat.le_trans h.size h'.size
  keep b hb hn hr := by
    have h1 : σ1 b = none := by
      by_cases hc : σ1 b = none
      · exact hc
      · rcases h.dom b hc with h2 | h2
        · exact absurd hn h2
        · omega
    rw [h'.keep b (Nat.lt_of_lt_of_le hb h.size) h1 hr, h.keep b hb hn hr]
  dom b hb := by
    rcases h'.dom b hb with h2 | h2
    · exact h.dom b h2
    · exact .inr (Nat.le_trans h.size h2)
  tape := h'.tape.trans h.tape
  os := h'.os.trans h.os
  out := h'.out.trans h.out

theorem Marks.next {rs : List Nat} {σ σ' : SHeap} {w w' : World} (h : Marks rs σ w) (hf : Fr σ σ' w w') : Marks rs σ' w' where
  nodup := h.nodup
  free r hr := by
    by_cases hc : σ' r = none
    · exact hc
    · rcases hf.dom r hc with h2 | h2
      · exact absurd (h.free r hr) h2
      · have := (Array.getElem?_eq_some_iff.1 (h.obj r hr)).1; omega
  obj r hr := by
    rw [hf.keep r (Array.getElem?_eq_some_iff.1 (h.obj r hr)).1 (h.free r hr)]; exact h.obj r hr

/-- From here the frame's rest comes to an end that Q takes. -/
def Run (P : Program) (f : FuncId) (ro : Option Nat) (n : Nat) (todo : List Item) (e : Env) (Q : Fin → SHeap → Prop) (σ : SHeap) : Prop :=
  ∀ (b : Frame) (cs : List Frame) (w : World) (tmps : Array Value) (rs : List Nat), b.fn = f → b.kind = .normal → b.roundOf = ro → tmps.size = n → EnvOk e tmps →
    Marks rs σ w → (ro.isSome = true → rs = [] ∧ cs ≠ []) → Sat w σ →
    ∃ o w' σ', Q o σ' ∧ Sat w' σ' ∧ FrM rs σ σ' w w' ∧ Goal P b cs (lone (b.atR ⟨tmps, marks rs⟩ todo) cs w) w' o

/-- One step of the machine that changes neither memory nor temporaries. -/
theorem Run.step {P : Program} {f : FuncId} {ro : Option Nat} {n : Nat} {todo todo' : List Item} {e : Env} {Q : Fin → SHeap → Prop} {σ : SHeap}
    (hs : ∀ (b : Frame) (a : Act) cs w, b.roundOf = ro → EnvOk e a.tmps → step P (lone (b.atR a todo) cs w) = .next (lone (b.atR a todo') cs w)) (h : Run P f ro n todo' e Q σ) : Run P f ro n todo e Q σ := by
  intro b cs w tmps rs h1 h2 h3 h4 h5 h6 h7 h8
  obtain ⟨o, w', σ', hq, hsat, hfr, hg⟩ := h b cs w tmps rs h1 h2 h3 h4 h5 h6 h7 h8
  exact ⟨o, w', σ', hq, hsat, hfr, hg.steps (.one (hs b _ cs w h3 h5))⟩

section
variable {P : Program} {f : FuncId} {ro : Option Nat} {n : Nat} {k : List Item} {e : Env} {Q : Fin → SHeap → Prop} {σ : SHeap}

theorem run_skip (h : Run P f ro n k e Q σ) : Run P f ro n (.code .skip :: k) e Q σ := h.step fun _ _ _ _ _ _ => stepR_skip
theorem run_label {l : Nat} (h : Run P f ro n k e Q σ) : Run P f ro n (.code (.label l) :: k) e Q σ := h.step fun _ _ _ _ _ _ => stepR_label
theorem run_inBlock {id : Nat} (h : Run P f ro n k e Q σ) : Run P f ro n (.inBlock id :: k) e Q σ := h.step fun _ _ _ _ _ _ => stepR_inBlock
theorem run_inScope {c : Code} (h : Run P f ro n k e Q σ) : Run P f ro n (.inScope c :: k) e Q σ :=
  h.step fun _ _ _ _ _ _ => step_lone_go (by simp [stepG, stepG.exec, Frame.atR])
theorem run_scope {c : Code} (h : Run P f ro n (.code c :: .inScope c :: k) e Q σ) : Run P f ro n (.code (.scope c) :: k) e Q σ :=
  h.step fun _ _ _ _ _ _ => step_lone_go (by simp [stepG, stepG.exec, Frame.atR])
theorem run_seq {x y : Code} (h : Run P f ro n (.code x :: .code y :: k) e Q σ) : Run P f ro n (.code (.seq x y) :: k) e Q σ := h.step fun _ _ _ _ _ _ => stepR_seq
theorem run_block {id : Nat} {c : Code} (h : Run P f ro n (.code c :: .inBlock id :: k) e Q σ) : Run P f ro n (.code (.block id c) :: k) e Q σ := h.step fun _ _ _ _ _ _ => stepR_block
theorem run_loop {c : Code} (h : Run P f ro n (.code c :: .inLoop c :: k) e Q σ) : Run P f ro n (.code (.loop c) :: k) e Q σ := h.step fun _ _ _ _ _ _ => stepR_loop
theorem run_inLoop {c : Code} (h : Run P f ro n (.code c :: .inLoop c :: k) e Q σ) : Run P f ro n (.inLoop c :: k) e Q σ := h.step fun _ _ _ _ _ _ => stepR_inLoop
theorem run_exit {id : Nat} {k' : List Item} (hk : exitTo id k = some k') (h : Run P f ro n k' e Q σ) : Run P f ro n (.code (.exit id) :: k) e Q σ := h.step fun _ _ _ _ _ _ => stepR_exit hk
theorem run_goto {l : Nat} {k' : List Item} (hk : gotoIn l k = some k') (h : Run P f ro n k' e Q σ) : Run P f ro n (.code (.goto l) :: k) e Q σ := h.step fun _ _ _ _ _ _ => stepR_goto hk

theorem run_cond {c : Operand} {x y : Code} {B : Bool} (hc : e.val c = some (.bool B)) (h : Run P f ro n (.code (if B then x else y) :: k) e Q σ) : Run P f ro n (.code (.cond c x y) :: k) e Q σ :=
  h.step fun b a cs w _ he => stepR_cond (Env.val_ok he hc)

/-- Less may be known. -/
theorem Run.env {todo : List Item} {e' : Env} (h : Run P f ro n todo e' Q σ) (he : ∀ tmps, EnvOk e tmps → EnvOk e' tmps) : Run P f ro n todo e Q σ :=
  fun b cs w tmps rs h1 h2 h3 h4 h5 h6 h7 h8 => h b cs w tmps rs h1 h2 h3 h4 (he _ h5) h6 h7 h8

theorem Run.heap {todo : List Item} {σ' : SHeap} (h : Run P f ro n todo e Q σ') (hs : ∀ b r, σ' b = some r → σ b = some r) : Run P f ro n todo e Q σ := by
  intro b cs w tmps rs h1 h2 h3 h4 h5 h6 h7 h8
  have hn : ∀ b, σ b = none → σ' b = none := fun b hb => by
    cases hc : σ' b with
    | none => rfl
    | some r => rw [hs b r hc] at hb; cases hb
  obtain ⟨o, w', σ2, hq, hsat, hfr, hg⟩ := h b cs w tmps rs h1 h2 h3 h4 h5 ⟨h6.nodup, fun r hr => hn r (h6.free r hr), h6.obj⟩ h7 (h8.sub hs)
  refine ⟨o, w', σ2, hq, hsat, { hfr with keep := fun b hb1 hb2 hb3 => hfr.keep b hb1 (hn b hb2) hb3, dom := fun b hb => ?_ }, hg⟩
  rcases hfr.dom b hb with h | h
  · refine .inl fun hc => h (hn b hc)
  · exact .inr h

theorem Run.mono {todo : List Item} {Q' : Fin → SHeap → Prop} (h : Run P f ro n todo e Q' σ) (hq : ∀ o σ, Q' o σ → Q o σ) : Run P f ro n todo e Q σ := by
  intro b cs w tmps rs h1 h2 h3 h4 h5 h6 h7 h8
  obtain ⟨o, w', σ2, hq', hsat, hfr, hg⟩ := h b cs w tmps rs h1 h2 h3 h4 h5 h6 h7 h8
  exact ⟨o, w', σ2, hq _ _ hq', hsat, hfr, hg⟩
end

end Go.Sep
