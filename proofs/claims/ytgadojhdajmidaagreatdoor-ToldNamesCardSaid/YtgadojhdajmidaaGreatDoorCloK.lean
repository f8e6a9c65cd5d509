/- Closed runs of code: sound. -/
import Derived.Test.YtgadojhdajmidaaGreatDoorCloJ
set_option linter.unusedSimpArgs false
set_option linter.unusedVariables false
namespace Go.Sep

/-- What the code's function is known to be. -/
structure FOk (P : Program) (f n : Nat) (res : List ResultVar) : Prop where
  fn : ∃ fn, P.funcs[f]? = some fn ∧ fn.ntmps = n ∧ fn.results.toList = res

theorem cRun_ok {P : Program} {x : FX} (hmix : P.follows .mixedOrders = true) (hT : TOk P x.T) (hz : TCst x.T) (hcall : CallOk P x.T x.call) {ro : Option Nat} (hf : ∃ fn, P.funcs[x.f]? = some fn ∧ (ro = none → fn.results.toList = x.res)) :
    ∀ (F : Nat) (todo : List Item) (ev : HT Value) (τ : VH) (o : VFin) (τ' : VH), cRun x ro F todo ev τ = some (o, τ') →
    ∀ (ι : Ren) (σ : SHeap) (e : Env) (ro' : Option Nat), EnvR ι ev e → HR x.T ι τ σ → RoR ι ro ro' → Run P x.f ro' x.n todo e (QC x.T ι τ o τ') σ := by
  obtain ⟨fn, hfn, hres⟩ := hf
  have hfn' : ∃ fn, P.funcs[x.f]? = some fn := ⟨fn, hfn⟩
  have rnd : ∀ {l : Nat} {τ τ1 : VH} {ι : Ren} {σ : SHeap} {i : RI} (jump : Option Code), HR x.T ι τ σ → ι l = some i → endC l jump τ = some τ1 → ∃ r, loopAt σ i.blk = some r ∧ QC x.T ι τ (.rnd jump.isNone) τ1 (.rnd jump.isNone) (σ.set i.blk (endRow r jump)) := by
    intro l τ τ1 ι σ i jump hr hi h
    unfold endC at h
    split at h
    · rename_i f n env ps as body st pe hrow
      cases h
      obtain ⟨r, e, h1, _⟩ := loop_row hr hi hrow
      obtain ⟨x1, x2⟩ := loop_put hr hi hrow h1 (if jump.isNone then .ready else .done) jump
      exact ⟨r, h1, ι, x1, x2, .rnd _⟩
    · cases h
  have ret : ∀ {ev : HT Value} {τ : VH} {ι : Ren} {σ : SHeap} {e : Env} {o : VFin} {τ' : VH}, ro = none → EnvR ι ev e → HR x.T ι τ σ → (match resC x.T ev τ x.res with | some vs => some (VFin.ret (retV vs), τ) | none => none) = some (o, τ') →
      resW x.T e σ fn.results.toList fun vs => QC x.T ι τ o τ' (.ret (retV vs)) σ := by
    intro ev τ ι σ e o τ' hro he hr h
    split at h
    · rename_i vs hvs
      cases h
      obtain ⟨vs', h1, h2⟩ := resC_ok he hr hvs
      rw [hres hro]
      exact h2 _ ⟨ι, Ext.refl _ _, hr, .ret (retV_vr h1)⟩
    · cases h
  intro F
  induction F with
  | zero => intro todo ev τ o τ' h; cases h
  | succ F ih =>
    intro todo ev τ o τ' h ι σ e ro' he hr hro
    have next : ∀ {k ev1 τ1 ι1 e1 σ1}, cRun x ro F k ev1 τ1 = some (o, τ') → Ext ι τ ι1 τ1 → EnvR ι1 ev1 e1 → HR x.T ι1 τ1 σ1 → Run P x.f ro' x.n k e1 (QC x.T ι τ o τ') σ1 := by
      intro k ev1 τ1 ι1 e1 σ1 hk hx he1 hr1
      exact (ih k ev1 τ1 o τ' hk ι1 σ1 e1 ro' he1 hr1 (hro.mono hx.le)).mono fun o σ hq => QC.ext hx hq
    have here : ∀ {k}, cRun x ro F k ev τ = some (o, τ') → Run P x.f ro' x.n k e (QC x.T ι τ o τ') σ := fun hk => next hk (Ext.refl _ _) he hr
    cases todo with
    | nil =>
      rw [cRun_nil] at h
      unfold endOf at h
      cases hro with
      | none => exact run_end hT hfn (ret rfl he hr h)
      | some hi =>
        simp only at h
        split at h
        · rename_i τ1 hend
          cases h
          obtain ⟨r, h1, h2⟩ := rnd none hr hi hend
          exact run_rnd_end h1 h2
        · cases h
    | cons i k =>
      rw [cRun_cons] at h
      cases i with
      | inBlock id => exact run_inBlock (here h)
      | inLoop a => exact run_inLoop (here h)
      | inScope a => exact run_inScope (here h)
      | inRegion => cases h
      | inRangeFunc => cases h
      | endRangeFunc => cases h
      | call => cases h
      | extern => cases h
      | beginRound =>
        have h' : begS ro (cRun x ro F) k ev τ = some (o, τ') := h
        unfold begS at h'
        cases hro with
        | none => cases h'
        | @some l ri hi =>
          simp only at h'
          split at h'
          · rename_i τ1 hb
            unfold beginC at hb
            split at hb
            · rename_i f n env ps as body pe hrow
              cases hb
              obtain ⟨r, e1, h1, h2, h3, _⟩ := loop_row hr hi hrow
              obtain ⟨x1, x2⟩ := loop_put hr hi hrow h1 .busy pe
              refine run_beginRound h1 h2 ?_
              have : ({ r with state := .busy } : Loop) = { r with state := .busy, pending := pe } := by rw [← h3]
              rw [this]
              exact next h' x1 he x2
            · cases hb
          · cases h'
      | code c =>
        have h' : codeS x ro (cRun x ro F) c k ev τ = some (o, τ') := h
        cases c with
        | skip => exact run_skip (here h')
        | label l => exact run_label (here h')
        | seq a b => exact run_seq (here h')
        | block id a => exact run_block (here h')
        | loop a => exact run_loop (here h')
        | scope a => exact run_scope (here h')
        | refuse => cases h'
        | cond c a b =>
          have h2 : condS (cRun x ro F) c a b k ev τ = some (o, τ') := h'
          unfold condS at h2
          split at h2
          · rename_i B hB
            rw [fB_eq] at h2
            obtain ⟨v', h3, h4⟩ := valC_ok he hB
            cases h4
            refine run_cond h3 ?_
            have : (if B = true then a else b) = (bif B then a else b) := by cases B <;> rfl
            rw [this]
            exact here h2
          · cases h2
        | region id ops draw =>
          have h2 : regS x (cRun x ro F) ops draw k ev τ = some (o, τ') := h'
          unfold regS at h2
          split at h2
          · rename_i ev1 τ1 hreg
            refine run_regC hmix hT hz hcall hfn' he hr hreg (fun ev' τ'' heq ι' e' σ' q1 q2 q3 => ?_) (fun v τ'' heq => by cases heq)
            cases heq
            exact next h2 q1 q2 q3
          · rename_i v τ1 hreg
            cases h2
            refine run_regC hmix hT hz hcall hfn' he hr hreg (fun ev' τ'' heq => by cases heq) (fun v' τ'' heq ι' w' σ' q1 q2 q3 => ?_)
            cases heq
            exact ⟨ι', q1, q3, .pan q2⟩
          · cases h2
        | exit id =>
          have h2 : exitS ro (cRun x ro F) id k ev τ = some (o, τ') := h'
          unfold exitS at h2
          split at h2
          · rename_i k' hk
            exact run_exit hk (here h2)
          · rename_i hk
            cases hro with
            | none => cases h2
            | some hi =>
              simp only at h2
              split at h2
              · rename_i τ1 hend
                cases h2
                obtain ⟨r, h3, h4⟩ := rnd (some (.exit id)) hr hi hend
                exact run_rnd_exit hk h3 h4
              · cases h2
        | goto l =>
          have h2 : (match gotoIn l k with | some k => cRun x ro F k ev τ | none => none) = some (o, τ') := h'
          split at h2
          · rename_i k' hk
            exact run_goto hk (here h2)
          · cases h2
        | ret =>
          have h2 : retC x ro ev τ = some (o, τ') := h'
          unfold retC at h2
          cases hro with
          | none => exact run_ret hT hfn (ret rfl he hr h2)
          | some hi =>
            simp only at h2
            split at h2
            · rename_i τ1 hend
              cases h2
              obtain ⟨r, h3, h4⟩ := rnd (some .ret) hr hi hend
              exact run_rnd_ret h3 h4
            · cases h2
        | rangeFunc g ps as body =>
          have h2 : rngS x ro (cRun x ro F) g ps as body k ev τ = some (o, τ') := h'
          unfold rngS at h2
          split at h2
          · rename_i fv u hg hloop
            obtain ⟨fv', hg', hfv⟩ := valC_ok he hg
            refine run_rangeFunc hfn' hg' ?_ fun l r hl hli hst hpe => ?_
            · intro l0 hl0
              cases hro with
              | none => cases hl0
              | some hi =>
                cases hl0
                simp only at hloop
                split at hloop
                · rename_i hrow
                  obtain ⟨r0, _, h3, _⟩ := loop_row hr hi hrow
                  exact ⟨r0, h3⟩
                · cases hloop
            · have hnew : RR x.T (ι.add τ.next ⟨l, 0, 0⟩) ⟨l, 0, 0⟩ (.loop x.f x.n ev ps.toList as body .ready none) (.obj (.loop r)) := ⟨r, e, rfl, hst, hpe, he.mono (hr.addLe _), hli⟩
              obtain ⟨x1, x2⟩ := hr.new (i := ⟨l, 0, 0⟩) hl hnew
              have hni : ι.add τ.next ⟨l, 0, 0⟩ τ.next = some ⟨l, 0, 0⟩ := Ren.add_same ..
              split at h2
              · rename_i v2 τ2 hc
                have hcv := hcall _ _ _ _ hc _ _ _ _ (hfv.mono x1.le) (.cons (VR.yld hni) .nil) x2
                refine hcv.mono fun en σ' hen => ?_
                obtain ⟨ι', v', q1, q2, q3, rfl⟩ := hen
                split at h2
                · rename_i f n env ps2 as2 body2 st pe hrow
                  have hi' : ι' τ.next = some ⟨l, 0, 0⟩ := q1.le _ _ hni
                  obtain ⟨r', e', k1, k2, k3, k4, k5⟩ := loop_row q3 hi' hrow
                  cases hbz : (st == .busy) with
                  | true => rw [hbz] at h2; cases h2
                  | false =>
                    rw [hbz] at h2
                    simp only [cond_false] at h2
                    obtain ⟨y1, y2⟩ := loop_put q3 hi' hrow k1 .exhausted pe
                    refine ⟨r', k1, by rw [k2, hbz], ?_⟩
                    rw [k3]
                    have xx := (x1.trans q1).trans y1
                    exact next h2 xx (he.mono xx.le) y2
                · cases h2
              · rename_i v2 τ2 hc
                cases h2
                have hcv := hcall _ _ _ _ hc _ _ _ _ (hfv.mono x1.le) (.cons (VR.yld hni) .nil) x2
                refine hcv.mono fun en σ' hen => ?_
                obtain ⟨ι', v', q1, q2, q3, rfl⟩ := hen
                exact ⟨ι', x1.trans q1, q3, .pan q2⟩
              · cases h2
          · cases h2

end Go.Sep
