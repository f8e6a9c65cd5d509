/- Runs of closed calls: an operation in a frame, and regions that do not draw their order. -/
import Derived.Test.YtgadojhdajmidaaGreatDoorCloB
set_option linter.unusedSimpArgs false
set_option linter.unusedVariables false
namespace Go.Sep

/-- What a call comes to: a value, or a panic. -/
abbrev CRes := Bool × Value × VH

def chain (v : Value) : List PanicEntry := [{ v, recovered := false }]

def RetR (T : Nat → Option TInf) (ι : Ren) (τ : VH) (r : CRes) (en : Ending) (σ : SHeap) : Prop :=
  ∃ ι' v', Ext ι τ ι' r.2.2 ∧ VR ι' r.2.1 v' ∧ HR T ι' r.2.2 σ ∧ en = bif r.1 then .returned v' else .panicked (chain v')

abbrev CallT := Value → List Value → VH → Option CRes

def CallOk (P : Program) (T : Nat → Option TInf) (call : CallT) : Prop :=
  ∀ fv args τ r, call fv args τ = some r → ∀ ι σ fv' args', VR ι fv fv' → VRs ι args args' → HR T ι τ σ → CallV P fv' args' (RetR T ι τ r) σ

noncomputable def opC (T : Nat → Option TInf) (call : CallT) (op : Op) (vs : List Value) (τ : VH) : Option CRes :=
  match op with
  | .call { callee := .value _, .. } => (match vs with | f :: args => call f args τ | [] => none)
  | .panic _ => (match vs with | [.iface t v] => some (false, .iface t v, τ) | _ => none)
  | .pick _ _ _ => (match vs with | [.bool b, x, y] => some (true, bif b then x else y, τ) | _ => none)
  | .defer _ => none
  | _ => (match efV T op vs τ with | some (v, τ) => some (true, v, τ) | none => none)

def envT (tmps : Array Value) : Env := fun t => match tmps[t]? with | some v => some (none, v) | none => none

theorem envT_ok (tmps : Array Value) : EnvOk (envT tmps) tmps := by
  intro t g v h
  unfold envT at h
  split at h
  · rename_i x hx; cases h; exact hx
  · cases h

theorem envT_get {tmps : Array Value} {t : Nat} {v : Value} (h : envT tmps t = some (none, v)) : tmps[t]? = some v := envT_ok tmps t none v h

theorem envT_of {tmps : Array Value} {t : Nat} {v : Value} (h : tmps[t]? = some v) : envT tmps t = some (none, v) := by simp [envT, h]

noncomputable def putC (ev : HT Value) (d : Option Nat) (v : Value) : HT Value := match d with | some d => ev.upd (some v) d | none => ev

theorem putC_ok {ι : Ren} {ev : HT Value} {tmps : Array Value} (h : EnvR ι ev (envT tmps)) {d : Option Nat} (hd : dstOk tmps.size d = true) {v v' : Value} (hv : VR ι v v') (ds : List Deferred) : EnvR ι (putC ev d v) (envT ((⟨tmps, ds⟩ : Act).put d v').tmps) := by
  cases d with
  | none => exact h
  | some d =>
    have hlt := dstOk_lt hd d rfl
    intro t x hx
    have hx' : (ev.upd (some v) d).get t = some x := hx
    simp only [Act.put]
    by_cases ht : t = d
    · subst ht
      rw [HT.upd_same] at hx'; cases hx'
      exact ⟨v', envT_of (by simp [hlt]), hv⟩
    · rw [HT.upd_ne _ _ ht] at hx'
      obtain ⟨y, h1, h2⟩ := h t x hx'
      exact ⟨y, envT_of (by rw [Array.getElem?_setIfInBounds_ne (Ne.symm ht)]; exact envT_get h1), h2⟩

theorem CallV.mono {P : Program} {fv : Value} {args : List Value} {R R' : Ending → SHeap → Prop} {σ : SHeap} (h : CallV P fv args R σ) (hr : ∀ e σ, R e σ → R' e σ) : CallV P fv args R' σ := by
  have hF : ∀ {f args}, CallF P f args R σ → CallF P f args R' σ := by
    intro f args h
    rcases h with ⟨h1, h2⟩ | h
    · exact .inl ⟨h1, fun w hs => (h2 w hs).mono fun e w' ⟨σ', a, b⟩ => ⟨σ', hr _ _ a, b⟩⟩
    · exact .inr fun w hs => by
        obtain ⟨v, w', σ', h1, h2, h3⟩ := h w hs
        exact ⟨v, w', σ', h1, hr _ _ h2, h3⟩
  have hR : ∀ {l args}, RoundW P l args R σ → RoundW P l args R' σ := by
    intro l args h w hs
    obtain ⟨f, tmps, as, body, h1, h2⟩ := h w hs
    refine ⟨f, tmps, as, body, h1, fun c cs => ?_⟩
    obtain ⟨b, w', σ', h3, h4⟩ := h2 c cs
    exact ⟨b, w', σ', hr _ _ h3, h4⟩
  unfold CallV at h ⊢
  split at h
  · exact hF h
  · exact hR h
  · exact h.elim

/-- An operation of a closed run, made by the machine. -/
theorem opC_exec {P : Program} {T : Nat → Option TInf} (hT : TOk P T) (hz : TCst T) {call : CallT} (hcall : CallOk P T call) {o : Oper} {τ : VH} {ι : Ren} {σ : SHeap} {vs : List Value} {r : CRes}
    {b : Frame} {cs : List Frame} {w : World} {tmps : Array Value} {rs : List Nat} (hfn : ∃ fn, P.funcs[b.fn]? = some fn) (hm : Marks rs σ w) (hs : Sat w σ) (hr : HR T ι τ σ)
    {ops : Array Oper} {i : Nat} {rest : List Nat} {k : List Item} (ho : ops[i]? = some o) (hw : Region.wanted o (yielded ops tmps) = true) (hd : dstOk tmps.size o.dst = true)
    {vs' : List Value} (hv : VRs ι vs vs') (he : Vals (envT tmps) (opnds o.op) vs') (h : opC T call o.op vs τ = some r) :
    ∃ ι' v' w' σ', Ext ι τ ι' r.2.2 ∧ VR ι' r.2.1 v' ∧ HR T ι' r.2.2 σ' ∧ Sat w' σ' ∧
      ((r.1 = true ∧ Fr σ σ' w w' ∧ Steps P (lone (b.atR ⟨tmps, marks rs⟩ (.inRegion ops (i :: rest) :: k)) cs w) (lone (b.atR ((⟨tmps, marks rs⟩ : Act).put o.dst v') (.inRegion ops rest :: k)) cs w')) ∨
       (r.1 = false ∧ FrM rs σ σ' w w' ∧ Goal P b cs (lone (b.atR ⟨tmps, marks rs⟩ (.inRegion ops (i :: rest) :: k)) cs w) w' (.pan (chain v')))) := by
  have gen : opW P T tmps.size (envT tmps) o σ
      (fun fin σ' => ∃ ι' v', Ext ι τ ι' r.2.2 ∧ VR ι' r.2.1 v' ∧ HR T ι' r.2.2 σ' ∧ r.1 = false ∧ fin = .pan (chain v'))
      (fun e' σ' => ∃ ι' v', Ext ι τ ι' r.2.2 ∧ VR ι' r.2.1 v' ∧ HR T ι' r.2.2 σ' ∧ r.1 = true ∧ e' = (envT tmps).put o.dst v') →
      ∃ ι' v' w' σ', Ext ι τ ι' r.2.2 ∧ VR ι' r.2.1 v' ∧ HR T ι' r.2.2 σ' ∧ Sat w' σ' ∧
      ((r.1 = true ∧ Fr σ σ' w w' ∧ Steps P (lone (b.atR ⟨tmps, marks rs⟩ (.inRegion ops (i :: rest) :: k)) cs w) (lone (b.atR ((⟨tmps, marks rs⟩ : Act).put o.dst v') (.inRegion ops rest :: k)) cs w')) ∨
       (r.1 = false ∧ FrM rs σ σ' w w' ∧ Goal P b cs (lone (b.atR ⟨tmps, marks rs⟩ (.inRegion ops (i :: rest) :: k)) cs w) w' (.pan (chain v')))) := by
    intro hop
    rcases op_exec hT hop (cs := cs) hfn (envT_ok tmps) hm hs (rest := rest) (k := k) ho hw with ⟨v, w', σ', ⟨ι', v', h1, h2, h3, h4, h5⟩, s1, s2, s3⟩ | ⟨fin, w', σ', ⟨ι', v', h1, h2, h3, h4, rfl⟩, s1, s2, s3⟩
    · refine ⟨ι', v', w', σ', h1, h2, h3, s1, .inl ⟨h4, s2, ?_⟩⟩
      have : (⟨tmps, marks rs⟩ : Act).put o.dst v = (⟨tmps, marks rs⟩ : Act).put o.dst v' := by
        cases hdst : o.dst with
        | none => rfl
        | some d =>
          rw [hdst] at h5
          have h6 := congrFun h5 d
          have hbb : Nat.beq d d = true := by simp
          simp only [Env.put, Env.set, hbb, cond_true] at h6
          have : v = v' := by simpa using h6
          rw [this]
      rw [← this]; exact s3
    · exact ⟨ι', v', w', σ', h1, h2, h3, s1, .inr ⟨h4, s2, s3⟩⟩
  obtain ⟨dst, op, type, pos, after, guard⟩ := o
  simp only at he h hd
  unfold opC at h
  split at h
  · rename_i f args ats
    split at h
    · rename_i fv avs
      cases hv with
      | cons hf ha =>
        obtain ⟨x, xs, hx, h1, h2⟩ := Vals.cons (x := f) (l := args.toList) he
        cases hx
        refine gen ?_
        unfold opW
        simp only [hd, cond_true]
        refine optW_of h1 (valsW_of h2 ?_)
        refine (hcall _ _ _ _ h ι σ _ _ hf ha hr).mono fun en σ' hen => ?_
        obtain ⟨ι', v', g1, g2, g3, g4⟩ := hen
        cases hb : r.1 with
        | true => rw [hb] at g4; subst g4; exact ⟨ι', v', g1, g2, g3, rfl, rfl⟩
        | false => rw [hb] at g4; subst g4; exact ⟨ι', v', g1, g2, g3, rfl, rfl⟩
    · cases h
  · split at h
    · cases h
      obtain ⟨x', rfl, h1⟩ := hv.one
      cases h1
      rename_i t v v' hvv
      refine gen ?_
      unfold opW
      rw [hd]
      exact optW_of he.one ⟨ι, _, Ext.refl _ _, .iface hvv, hr, rfl, rfl⟩
    · cases h
  · rename_i c a1 a2
    split at h
    · rename_i B x y
      cases h
      obtain ⟨c', x', y', rfl, h1, h2, h3⟩ := hv.three
      cases h1
      have g1 : Act.eval ⟨tmps, marks rs⟩ c = .bool B := Env.val_ok (a := ⟨tmps, marks rs⟩) (envT_ok tmps) he.three.1
      have g2 := Env.val_ok (a := ⟨tmps, marks rs⟩) (envT_ok tmps) he.three.2.1
      have g3 := Env.val_ok (a := ⟨tmps, marks rs⟩) (envT_ok tmps) he.three.2.2
      refine ⟨ι, (bif B then x' else y'), w, σ, Ext.refl _ _, ?_, hr, hs, .inl ⟨rfl, Fr.refl _ _, .one (step_lone_go ?_)⟩⟩
      · cases B
        · exact h3
        · exact h2
      · have hg := stepGR_op (P := P) (b := b) (a := ⟨tmps, marks rs⟩) (k := k) (cs := cs) (w := w) (rest := rest) ho hw
        rw [Oper.semAt_eq _ _ _ (by intro c hc; cases hc)] at hg
        have hfin : ∀ v, (b.atR ⟨tmps, marks rs⟩ (.inRegion ops (i :: rest) :: k)).finish v = b.atR ((⟨tmps, marks rs⟩ : Act).put dst v) (.inRegion ops rest :: k) := by
          intro v; rw [Frame.finish_atR, ho]; rfl
        have hrun : (execOp (Act.eval ⟨tmps, marks rs⟩) { dst, op := .pick c a1 a2, type, pos, after, guard }).run P w = .ok (.value (bif B then x' else y')) w := by
          cases B with
          | true => simp only [execOp, g1, asBool, Sem.run_bind, Sem.run_pure, Result.andThen_ok, if_true, g2]; rfl
          | false => simp only [execOp, g1, asBool, Sem.run_bind, Sem.run_pure, Result.andThen_ok, Bool.false_eq_true, if_false, g3]; rfl
        rw [hg]
        simp only
        rw [← hfin]
        simp only [stepG.apply, Sem.runT_eq, hrun, if_true, GStep.bare_after]; rfl
    · cases h
  · cases h
  · rename_i n1 n2 n3 n4
    split at h
    · rename_i v τ' hef
      cases h
      have hg := efV_ok hz hr (e := envT tmps) hv he hef
      refine gen ?_
      unfold opW
      rw [hd]
      have hop : efOp T (envT tmps) op σ fun v_1 σ_1 => ∃ ι' v', Ext ι τ ι' τ' ∧ VR ι' v v' ∧ HR T ι' τ' σ_1 ∧ true = true ∧ (envT tmps).put dst v_1 = (envT tmps).put dst v' :=
        hg _ fun ι' v' σ' x1 x2 x3 => ⟨ι', v', x1, x2, x3, rfl, rfl⟩
      cases op with
      | panic => exact absurd rfl (n2 _)
      | call c =>
        obtain ⟨callee, args, ats⟩ := c
        cases callee with
        | value f => exact absurd rfl (n1 _ _ _)
        | builtin b => exact hop
        | invoke r m => exact hop
      | _ => exact hop
    · cases h

end Go.Sep
