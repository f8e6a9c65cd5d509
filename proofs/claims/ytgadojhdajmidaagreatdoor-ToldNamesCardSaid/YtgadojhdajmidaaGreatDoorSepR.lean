/- Returns, rounds and ranges over functions; functions. -/
import Derived.Test.YtgadojhdajmidaaGreatDoorSepQ
set_option linter.unusedSimpArgs false
set_option linter.unusedVariables false
namespace Go.Sep

def resW (T : Nat → Option TInf) (e : Env) (σ : SHeap) : List ResultVar → (List Value → Prop) → Prop
  | [], K => K []
  | .tmp t :: rs, K => optW (e.val (.tmp t)) fun v => resW T e σ rs fun vs => K (v :: vs)
  | .cell a t :: rs, K => optW (e.val (.tmp a)) fun p => asP p fun ad => ldW T t ad σ fun v => resW T e σ rs fun vs => K (v :: vs)

def retV : List Value → Value
  | [v] => v
  | vs => .tuple vs.toArray

theorem resW_ok {P : Program} {T : Nat → Option TInf} (hT : TOk P T) {e : Env} {tmps : Array Value} (he : EnvOk e tmps) {σ : SHeap} : ∀ {rs : List ResultVar} {K : List Value → Prop}, resW T e σ rs K →
    ∃ vs, K vs ∧ ∀ w, Sat w σ → (rs.mapM (fun | .tmp t => pure (tmps.getD t undef) | .cell a t => do loadVar t (← asAddr (tmps.getD a undef)) : ResultVar → Sem Value)).run P w = .ok vs w
  | [], K, h => ⟨[], h, fun w _ => rfl⟩
  | .tmp t :: rs, K, h => by
    obtain ⟨v, hv, h⟩ := optW_some h
    obtain ⟨vs, hk, hr⟩ := resW_ok hT he h
    refine ⟨_, hk, fun w hs => ?_⟩
    have := Env.val_ok (a := ⟨tmps, []⟩) he hv
    simp only [Act.eval] at this
    rw [List.mapM_cons]
    simp only [Sem.run_bind, Sem.run_pure, Result.andThen_ok, hr w hs, this]
  | .cell a t :: rs, K, h => by
    obtain ⟨p, hp, h⟩ := optW_some h
    obtain ⟨ad, rfl, h1⟩ := asP_elim h
    obtain ⟨v, h2, hl⟩ := ldW_ok (P := P) hT h1
    obtain ⟨vs, hk, hr⟩ := resW_ok hT he h2
    refine ⟨_, hk, fun w hs => ?_⟩
    have := Env.val_ok (a := ⟨tmps, []⟩) he hp
    simp only [Act.eval] at this
    rw [List.mapM_cons]
    have ha : (asAddr (.pointer (some ad)) : Sem Addr) = pure ad := rfl
    simp only [Sem.run_bind, Sem.run_pure, Result.andThen_ok, this, ha, hl w hs, hr w hs]

theorem results_run {P : Program} {T : Nat → Option TInf} (hT : TOk P T) {e : Env} {tmps : Array Value} (he : EnvOk e tmps) {σ : SHeap} {fn : Func} {K : List Value → Prop} (h : resW T e σ fn.results.toList K) :
    ∃ vs, K vs ∧ ∀ w, Sat w σ → (results fn tmps).run P w = .ok (retV vs) w := by
  obtain ⟨vs, hk, hr⟩ := resW_ok (P := P) hT he h
  refine ⟨vs, hk, fun w hs => ?_⟩
  unfold results
  rw [Array.mapM_eq_mapM_toList]
  simp only [Sem.run_bind, Sem.run_map, Sem.run_pure]
  erw [hr w hs]
  match vs with
  | [] => rfl
  | [v] => rfl
  | a :: b :: c => simp [retV]

section
variable {P : Program} {T : Nat → Option TInf} {f : FuncId} {n : Nat} {k : List Item} {e : Env} {Q : Fin → SHeap → Prop} {σ : SHeap}

theorem goal_ret (hT : TOk P T) {fn : Func} (hfn : P.funcs[f]? = some fn) {b : Frame} {cs : List Frame} {w : World} {tmps : Array Value} {rs : List Nat} {todo : List Item} {m : Machine} (hb : b.fn = f) (hk : b.kind = .normal) (he : EnvOk e tmps)
    (hm : Marks rs σ w) (hs : Sat w σ) (h : resW T e σ fn.results.toList fun vs => Q (.ret (retV vs)) σ) (hst : Steps P m (lone { b.atR ⟨tmps, marks rs⟩ todo with mode := .returning } cs w)) :
    ∃ o w' σ', Q o σ' ∧ Sat w' σ' ∧ FrM rs σ σ' w w' ∧ Goal P b cs m w' o := by
  obtain ⟨vs, hq, hr⟩ := results_run (P := P) hT he h
  obtain ⟨w', s1, s2, s3, s4, s5, s6⟩ := unwind_marks (P := P) rs { b.atR ⟨tmps, marks rs⟩ todo with mode := .returning } cs w rfl rfl hm.nodup hm.obj
  have hsat : Sat w' σ := fun c r hc => Row.sat_congr (s3 c (fun hcr => by rw [hm.free c hcr] at hc; cases hc)) (hs c r hc)
  refine ⟨_, w', σ, hq, hsat, ⟨by omega, fun c _ _ hc => s3 c hc, fun c hc => .inl hc, s4, s5, s6⟩, _, hst.trans s1, rfl, rfl, rfl, hk, fn, ?_, hr w' hsat⟩
  rw [← hb] at hfn; exact hfn

theorem run_ret (hT : TOk P T) {fn : Func} (hfn : P.funcs[f]? = some fn) (h : resW T e σ fn.results.toList fun vs => Q (.ret (retV vs)) σ) : Run P f none n (.code .ret :: k) e Q σ :=
  fun _ _ _ _ _ h1 h2 h3 _ h5 h6 _ h8 => goal_ret hT hfn h1 h2 h5 h6 h8 h (.one (stepR_ret h3))

theorem run_end (hT : TOk P T) {fn : Func} (hfn : P.funcs[f]? = some fn) (h : resW T e σ fn.results.toList fun vs => Q (.ret (retV vs)) σ) : Run P f none n [] e Q σ :=
  fun _ _ _ _ _ h1 h2 h3 _ h5 h6 _ h8 => goal_ret hT hfn h1 h2 h5 h6 h8 h (.one (stepR_end h3))

/-! ### Rounds -/

def loopAt (σ : SHeap) (l : Nat) : Option Loop := match σ l with | some (.obj (.loop r)) => some r | _ => none

theorem loopAt_some {r : Loop} {l : Nat} (h : loopAt σ l = some r) : σ l = some (.obj (.loop r)) := by
  unfold loopAt at h
  split at h
  · cases h; assumption
  · cases h

def endRow (r : Loop) (jump : Option Code) : Row := .obj (.loop { r with state := if jump.isNone then .ready else .done, pending := jump })

theorem run_endRound {r : Loop} {l : Nat} {w : World} (hs : Sat w σ) (h : loopAt σ l = some r) (jump : Option Code) :
    ∃ w', (Instr.endRound l jump).run P w = .ok (.bool jump.isNone) w' ∧ Sat w' (σ.set l (endRow r jump)) ∧ Fr σ (σ.set l (endRow r jump)) w w' := by
  have hl := loopAt_some h
  have hw : w.heap[l]? = some (.loop r) := hs l _ hl
  obtain ⟨w', h1, h2, h3⟩ := run_setObj (P := P) hs hl (by intro c T fz h; cases h) (.loop { r with state := if jump.isNone then .ready else .done, pending := jump })
  refine ⟨w', ?_, h2, h3⟩
  have hg : (Instr.getLoop l).run P w = .ok r w := by simp [Instr.getLoop, getObj, Sem.run, hw]
  simp only [Instr.endRound, Sem.run_bind, hg, Result.andThen_ok, h1, Sem.run_pure]

theorem goal_rnd {r : Loop} {l : Nat} (jump : Option Code) {b : Frame} {cs : List Frame} {w : World} {rs : List Nat} {m : Machine} (hs : Sat w σ) (hl : loopAt σ l = some r) (hcs : cs ≠ [])
    (hq : Q (.rnd jump.isNone) (σ.set l (endRow r jump))) (hst : ∀ c cs' w', cs = c :: cs' → (Instr.endRound l jump).run P w = .ok (.bool jump.isNone) w' → Steps P m (lone (c.finish (.bool jump.isNone)) cs' w')) :
    ∃ o w' σ', Q o σ' ∧ Sat w' σ' ∧ FrM rs σ σ' w w' ∧ Goal P b cs m w' o := by
  obtain ⟨w', h1, h2, h3⟩ := run_endRound (P := P) hs hl jump
  cases cs with
  | nil => exact absurd rfl hcs
  | cons c cs' => exact ⟨_, w', _, hq, h2, FrM.of h3, c, cs', rfl, hst c cs' w' rfl h1⟩

theorem run_rnd_end {l : Nat} {r : Loop} (hl : loopAt σ l = some r) (hq : Q (.rnd true) (σ.set l (endRow r none))) : Run P f (some l) n [] e Q σ :=
  fun b cs w tmps rs _ h2 h3 _ _ _ h7 h8 => goal_rnd none h8 hl (h7 rfl).2 hq fun c cs' w' hc hr => by
    subst hc; exact .one (stepR_round_end h3 h2 hr)

theorem run_rnd_ret {l : Nat} {r : Loop} (hl : loopAt σ l = some r) (hq : Q (.rnd false) (σ.set l (endRow r (some .ret)))) : Run P f (some l) n (.code .ret :: k) e Q σ :=
  fun b cs w tmps rs _ h2 h3 _ _ _ h7 h8 => goal_rnd (some .ret) h8 hl (h7 rfl).2 hq fun c cs' w' hc hr => by
    subst hc; exact .one (stepR_round_ret h3 h2 hr)

theorem run_rnd_exit {l id : Nat} {r : Loop} (hx : exitTo id k = none) (hl : loopAt σ l = some r) (hq : Q (.rnd false) (σ.set l (endRow r (some (.exit id))))) : Run P f (some l) n (.code (.exit id) :: k) e Q σ :=
  fun b cs w tmps rs _ h2 h3 _ _ _ h7 h8 => goal_rnd (some (.exit id)) h8 hl (h7 rfl).2 hq fun c cs' w' hc hr => by
    subst hc; exact .one (stepR_round_exit h3 h2 hx hr)

theorem run_beginRound {l : Nat} {r : Loop} (hl : loopAt σ l = some r) (hst : r.state = .ready) (h : Run P f (some l) n k e Q (σ.set l (.obj (.loop { r with state := .busy })))) : Run P f (some l) n (.beginRound :: k) e Q σ := by
  intro b cs w tmps rs h1 h2 h3 h4 h5 h6 h7 h8
  have hl' := loopAt_some hl
  have hw : w.heap[l]? = some (.loop r) := h8 l _ hl'
  obtain ⟨w', r1, r2, r3⟩ := run_setObj (P := P) h8 hl' (by intro c T fz h; cases h) (.loop { r with state := .busy })
  have hb : (Instr.beginRound l).run P w = .ok () w' := by
    have hg : (Instr.getLoop l).run P w = .ok r w := by simp [Instr.getLoop, getObj, Sem.run, hw]
    simp only [Instr.beginRound, Sem.run_bind, hg, Result.andThen_ok, r1, hst, Sem.run_pure]
  obtain ⟨o, w2, σ2, hq, s1, s2, s3⟩ := h b cs w' tmps rs h1 h2 h3 h4 h5 (h6.next r3) h7 r2
  exact ⟨o, w2, σ2, hq, s1, (FrM.of r3).trans s2, s3.steps (.one (stepR_beginRound h3 hb))⟩

def Env.sets (e : Env) : List Nat → List Value → Env
  | t :: ts, v :: vs => (e.set t v).sets ts vs
  | _, _ => e

/-- What is known of a loop's record. -/
structure LoopIs (r : Loop) (f : FuncId) (n : Nat) (ps : List Nat) (assign body : Code) (e : Env) : Prop where
  fn : r.fn = f
  params : r.params.toList = ps
  assign : r.assign = assign
  body : r.body = body
  size : r.tmps.size = n
  env : EnvOk e r.tmps

theorem EnvOk.sets : ∀ {ps : List Nat} {vs : List Value} {e : Env} {tmps : Array Value}, EnvOk e tmps → (∀ p ∈ ps, p < tmps.size) →
    EnvOk (e.sets ps vs) ((ps.zip vs).foldl (fun (tmps : Array Value) (x : Nat × Value) => tmps.setIfInBounds x.1 x.2) tmps)
  | [], vs, e, tmps, h, _ => by cases vs <;> exact h
  | p :: ps, [], e, tmps, h, _ => h
  | p :: ps, v :: vs, e, tmps, h, hp => by
    simp only [Env.sets, List.zip_cons_cons, List.foldl_cons]
    refine EnvOk.sets ?_ (fun q hq => by simpa using hp q (by simp [hq]))
    have := EnvOk.put (a := ⟨tmps, []⟩) (d := some p) (v := v) h (fun x hx => by cases hx; exact hp p (by simp))
    simpa [Env.put, Act.put] using this

theorem foldl_sets_size : ∀ (l : List (Nat × Value)) (tmps : Array Value), (l.foldl (fun (tmps : Array Value) (x : Nat × Value) => tmps.setIfInBounds x.1 x.2) tmps).size = tmps.size
  | [], _ => rfl
  | x :: l, tmps => by simp only [List.foldl_cons]; rw [foldl_sets_size l]; simp

/-- A call of yield, out of the body's run. -/
theorem round_of_run {l : Nat} {args : List Value} {R : Ending → SHeap → Prop} {r : Loop} {ps : List Nat} {assign body : Code} (hl : loopAt σ l = some r) (hr : LoopIs r f n ps assign body e)
    (hlen : args.length = ps.length) (hps : ∀ p ∈ ps, p < n)
    (h : Run P f (some l) n [.code assign, .beginRound, .code body] (e.sets ps args) (fun o σ => match o with | .rnd b => R (.returned (.bool b)) σ | _ => False) σ) : RoundW P l args R σ := by
  intro w hs
  have hl' := loopAt_some hl
  have hw : w.heap[l]? = some (.loop r) := hs l _ hl'
  have hg : (Instr.getLoop l).run P w = .ok r w := by simp [Instr.getLoop, getObj, Sem.run, hw]
  have hzip : (r.params.zip args.toArray).toList = ps.zip args := by rw [← hr.params]; simp
  refine ⟨f, ((ps.zip args).foldl (fun (tmps : Array Value) (x : Nat × Value) => tmps.setIfInBounds x.1 x.2) r.tmps), assign, body, ?_, fun c cs => ?_⟩
  · have hsz : args.toArray.size = r.params.size := by
      have : r.params.toList.length = ps.length := by rw [hr.params]
      simpa [hlen] using this.symm
    simp only [Instr.yield, Sem.run_bind, hg, Result.andThen_ok]
    rw [if_neg (by simpa using hsz)]
    rw [hr.fn, hr.assign, hr.body, ← Array.foldl_toList, hzip]
    rfl
  · let b : Frame := { (default : Frame) with fn := f, kind := .normal, roundOf := some l }
    obtain ⟨o, w', σ', hq, s1, s2, s3⟩ := h b (c :: cs) w ((ps.zip args).foldl (fun (tmps : Array Value) (x : Nat × Value) => tmps.setIfInBounds x.1 x.2) r.tmps) [] rfl rfl rfl
      (by rw [foldl_sets_size]; exact hr.size) (EnvOk.sets hr.env (fun p hp => by rw [hr.size]; exact hps p hp)) ⟨List.nodup_nil, by simp, by simp⟩ (fun _ => ⟨rfl, by simp⟩) hs
    cases o with
    | ret v => exact hq.elim
    | pan v => exact hq.elim
    | rnd bb =>
      obtain ⟨c', cs', hc, hst⟩ := s3
      cases hc
      refine ⟨bb, w', σ', hq, s1, ⟨s2.size, fun b h1 h2 => s2.keep b h1 h2 (by simp), s2.dom, s2.tape, s2.os, s2.out⟩, ?_⟩
      have : Frame.round l f ((ps.zip args).foldl (fun (tmps : Array Value) (x : Nat × Value) => tmps.setIfInBounds x.1 x.2) r.tmps) assign body .normal = b.atR ⟨(ps.zip args).foldl (fun (tmps : Array Value) (x : Nat × Value) => tmps.setIfInBounds x.1 x.2) r.tmps, marks []⟩ [.code assign, .beginRound, .code body] := by
        simp [Frame.round, Frame.atR, b, marks]
      rw [this]; exact hst

/-! ### Functions -/

def finQ (R : Ending → SHeap → Prop) : Fin → SHeap → Prop
  | .ret v, σ => R (.returned v) σ
  | .pan ch, σ => R (.panicked ch) σ
  | .rnd _, _ => False

def envOf (args : List Value) : Env := fun t => match args[t]? with | some v => some (none, v) | none => none

theorem tri_of_run {fn : Func} {c : Code} {args : List Value} {R : Ending → SHeap → Prop} (hfn : P.funcs[f]? = some fn) (hb : fn.body = some c) (hn : args.length ≤ fn.ntmps)
    (h : Run P f none fn.ntmps [.code c] (envOf args) (finQ R) σ) : Tri P f args R σ := by
  intro w hs cs
  let b : Frame := { (default : Frame) with fn := f, kind := .normal, roundOf := none }
  have henter : Frame.enter P f args.toArray .normal = b.atR ⟨args.toArray ++ Array.replicate (fn.ntmps - args.length) undef, marks []⟩ [.code c] := by
    simp [Frame.enter, Frame.atR, hfn, hb, b, marks]
  obtain ⟨o, w', σ', hq, s1, s2, s3⟩ := h b cs w (args.toArray ++ Array.replicate (fn.ntmps - args.length) undef) [] rfl rfl rfl (by simp; omega)
    (fun t g v hv => by
      unfold envOf at hv
      split at hv
      · rename_i x hx
        cases hv
        simp only
        have hlt : t < args.length := by
          rcases Nat.lt_or_ge t args.length with h5 | h5
          · exact h5
          · rw [List.getElem?_eq_none h5] at hx; cases hx
        rw [Array.getElem?_append, if_pos (by simpa using hlt)]
        simpa using hx
      · cases hv) ⟨List.nodup_nil, by simp, by simp⟩ (fun h => by cases h) hs
  have hfr : Fr σ σ' w w' := ⟨s2.size, fun b h1 h2 => s2.keep b h1 h2 (by simp), s2.dom, s2.tape, s2.os, s2.out⟩
  rw [← henter] at s3
  cases o with
  | ret v =>
    obtain ⟨fr, h1, h2, h3⟩ := s3
    exact ⟨.returned v, w', fr, ⟨σ', hq, s1, hfr⟩, h1, h2, h3⟩
  | pan v =>
    obtain ⟨fr, h1, h2, h3⟩ := s3
    exact ⟨.panicked v, w', fr, ⟨σ', hq, s1, hfr⟩, h1, h2, h3⟩
  | rnd bb => exact hq.elim

theorem callF_of_run {fn : Func} {c : Code} {args : List Value} {R : Ending → SHeap → Prop} (hfn : P.funcs[f]? = some fn) (hb : fn.body = some c) (hnm : fn.name ≠ "runtime.NumGoroutine") (hn : args.length ≤ fn.ntmps)
    (h : Run P f none fn.ntmps [.code c] (envOf args) (finQ R) σ) : CallF P f args R σ := by
  refine .inl ⟨fun w => ?_, tri_of_run hfn hb hn h⟩
  simp only [callFunc, program, Sem.run_bind, Sem.run, Result.andThen_ok, hfn]
  rw [if_neg (by simpa using hnm), hb]
  rfl

end

end Go.Sep
