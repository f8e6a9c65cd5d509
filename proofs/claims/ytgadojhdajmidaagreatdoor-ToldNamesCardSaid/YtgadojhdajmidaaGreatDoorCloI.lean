/- Closed runs of code. -/
import Derived.Test.YtgadojhdajmidaaGreatDoorRngA
set_option linter.unusedSimpArgs false
set_option linter.unusedVariables false
namespace Go.Sep

/-! ### Regions -/

noncomputable def regN (T : Nat → Option TInf) (call : CallT) (ops : Array Oper) (l : List Oper) : HT Value → VH → Option RRes :=
  List.rec (motive := fun _ => HT Value → VH → Option RRes) (fun ev τ => some (.ok ev τ))
    (fun o _ ih ev τ => match gdC ops o ev with
      | some false => ih (putC ev o.dst undef) τ
      | some true => (match valsC ev (opnds o.op) with
        | some vs => (match opC T call o.op vs τ with
          | some (true, v, τ1) => ih (putC ev o.dst v) τ1
          | some (false, v, τ1) => some (.pan v τ1)
          | none => none)
        | none => none)
      | none => none) l

theorem regN_cons (T : Nat → Option TInf) (call : CallT) (ops : Array Oper) (o : Oper) (l : List Oper) (ev : HT Value) (τ : VH) : regN T call ops (o :: l) ev τ = match gdC ops o ev with
      | some false => regN T call ops l (putC ev o.dst undef) τ
      | some true => (match valsC ev (opnds o.op) with
        | some vs => (match opC T call o.op vs τ with
          | some (true, v, τ1) => regN T call ops l (putC ev o.dst v) τ1
          | some (false, v, τ1) => some (.pan v τ1)
          | none => none)
        | none => none)
      | none => none := rfl

noncomputable def regC (T : Nat → Option TInf) (call : CallT) (n : Nat) (ops : Array Oper) (draw : Bool) (ev : HT Value) (τ : VH) : Option RRes :=
  bif ops.toList.all fun o => dstOk n o.dst then (bif draw then drawC T call ops ev τ else regN T call ops ops.toList ev τ) else none

theorem envR_T {ι : Ren} {ev : HT Value} {tmps : Array Value} (h : EnvR ι ev (envT tmps)) {t : Nat} {v : Value} (hv : ev.get t = some v) : ∃ v', tmps[t]? = some v' ∧ VR ι v v' := by
  obtain ⟨v', h1, h2⟩ := h t v hv
  exact ⟨v', envT_get h1, h2⟩

theorem envR_env {ι : Ren} {ev : HT Value} {e : Env} {tmps : Array Value} (h : EnvR ι ev e) (he : EnvOk e tmps) : EnvR ι ev (envT tmps) := by
  intro t v hv
  obtain ⟨v', h1, h2⟩ := h t v hv
  exact ⟨v', envT_of (he t none v' h1), h2⟩

section
variable {P : Program} {T : Nat → Option TInf} {call : CallT} {n : Nat} {ops : Array Oper} {rs : List Nat} {b : Frame} {cs : List Frame} {k : List Item}

theorem regN_ok (hT : TOk P T) (hz : TCst T) (hcall : CallOk P T call) (hfn : ∃ fn, P.funcs[b.fn]? = some fn) (hdo : ∀ (i : Nat) (o : Oper), ops[i]? = some o → dstOk n o.dst = true) {m0 : Machine} {res : RRes} {ι0 : Ren} {τ0 : VH} {σ0 : SHeap} {w0 : World} :
    ∀ (l : List Oper) (i : Nat), ops.toList.drop i = l → ∀ {ev : HT Value} {τ : VH} {ι : Ren} {σ : SHeap} {tmps : Array Value} {w : World}, Ext ι0 τ0 ι τ → EnvR ι ev (envT tmps) → tmps.size = n → HR T ι τ σ → Sat w σ → Marks rs σ w → Fr σ0 σ w0 w →
    regN T call ops l ev τ = some res → Steps P m0 (lone (b.atR ⟨tmps, marks rs⟩ (.inRegion ops (List.range' i l.length) :: k)) cs w) → RegOut P T n b cs rs k ι0 τ0 σ0 w0 m0 res := by
  intro l
  induction l with
  | nil =>
    intro i hd ev τ ι σ tmps w h1 h2 h3 h4 h5 h6 h7 h8 h9
    cases h8
    exact ⟨ι, tmps, w, σ, h1, h2, h3, h4, h5, h6, h7, h9.trans (.one stepR_region_end)⟩
  | cons o l ih =>
    intro i hd ev τ ι σ tmps w h1 h2 h3 h4 h5 h6 h7 h8 h9
    have ho : ops[i]? = some o := by
      have : (ops.toList.drop i)[0]? = some o := by rw [hd]; rfl
      simpa using this
    have hd' : ops.toList.drop (i + 1) = l := by
      have := congrArg List.tail hd
      simpa [List.tail_drop] using this
    have hr : List.range' i (o :: l).length = i :: List.range' (i + 1) l.length := by simp [List.range'_succ]
    rw [hr] at h9
    rw [regN_cons] at h8
    have hreads : ∀ t ∈ rds ops o, ∀ v, ev.get t = some v → ∃ v', tmps[t]? = some v' ∧ VR ι v v' := fun t _ v hv => envR_T h2 hv
    have hdn : dstOk tmps.size o.dst = true := by rw [h3]; exact hdo i o ho
    have hpa : ∀ v', (⟨((⟨tmps, marks rs⟩ : Act).put o.dst v').tmps, marks rs⟩ : Act) = (⟨tmps, marks rs⟩ : Act).put o.dst v' := fun v' => by cases o.dst <;> rfl
    have hsz : ∀ v', ((⟨tmps, marks rs⟩ : Act).put o.dst v').tmps.size = n := fun v' => by cases o.dst <;> simp [Act.put, h3]
    split at h8
    · rename_i hg
      have hw := gd_read hreads hg
      refine ih (i + 1) hd' h1 (putC_ok h2 hdn undef_vr (marks rs)) (hsz _) h4 h5 h6 h7 h8 ?_
      rw [hpa]; exact h9.trans (.one (skip_step ho hw))
    · rename_i hg
      have hw := gd_read hreads hg
      split at h8
      · rename_i vs hvs
        obtain ⟨vs', he, hvr⟩ := vals_read (rds_vals hreads) hvs
        split at h8
        · rename_i v τ1 hop
          obtain ⟨ι', v', w', σ', x1, x2, x3, x4, x5⟩ := opC_exec hT hz hcall (b := b) (cs := cs) (k := k) (rest := List.range' (i + 1) l.length) hfn h6 h5 h4 ho hw hdn hvr he hop
          rcases x5 with ⟨_, y1, y2⟩ | ⟨y0, _⟩
          · refine ih (i + 1) hd' (h1.trans x1) (putC_ok (h2.mono x1.le) hdn x2 (marks rs)) (hsz _) x3 x4 (h6.next y1) (h7.trans y1) h8 ?_
            rw [hpa]; exact h9.trans y2
          · cases y0
        · rename_i v τ1 hop
          cases h8
          obtain ⟨ι', v', w', σ', x1, x2, x3, x4, x5⟩ := opC_exec hT hz hcall (b := b) (cs := cs) (k := k) (rest := List.range' (i + 1) l.length) hfn h6 h5 h4 ho hw hdn hvr he hop
          rcases x5 with ⟨y0, _⟩ | ⟨_, y1, y2⟩
          · cases y0
          · exact ⟨ι', v', w', σ', h1.trans x1, x2, x3, x4, (FrM.of h7).trans y1, y2.steps h9⟩
        · cases h8
      · cases h8
    · cases h8

theorem region_out (hmix : P.follows .mixedOrders = true) (hT : TOk P T) (hz : TCst T) (hcall : CallOk P T call) (hfn : ∃ fn, P.funcs[b.fn]? = some fn) {id : Nat} {draw : Bool} {res : RRes} {ev : HT Value} {τ : VH} {ι : Ren} {σ : SHeap} {tmps : Array Value} {w : World}
    (h2 : EnvR ι ev (envT tmps)) (h3 : tmps.size = n) (h4 : HR T ι τ σ) (h5 : Sat w σ) (h6 : Marks rs σ w) (h : regC T call n ops draw ev τ = some res) :
    RegOut P T n b cs rs k ι τ σ w (lone (b.atR ⟨tmps, marks rs⟩ (.code (.region id ops draw) :: k)) cs w) res := by
  unfold regC at h
  cases hd : ops.toList.all fun o => dstOk n o.dst with
  | false => rw [hd] at h; cases h
  | true =>
    rw [hd] at h
    simp only [cond_true] at h
    have hdo : ∀ (i : Nat) (o : Oper), ops[i]? = some o → dstOk n o.dst = true := fun i o ho => (List.all_eq_true.1 hd) o (by
      have : ops.toList[i]? = some o := by simpa using ho
      exact List.mem_of_getElem? this)
    cases draw with
    | false =>
      refine regN_ok hT hz hcall hfn hdo ops.toList 0 (by simp) (Ext.refl _ _) h2 h3 h4 h5 h6 (Fr.refl _ _) h (.one ?_)
      rw [stepR_region]
      have : List.range' 0 ops.toList.length = List.range ops.size := by rw [List.range_eq_range']; simp
      rw [this]
    | true =>
      have h' : drawC T call ops ev τ = some res := h
      unfold drawC at h'
      cases hs : sokB ops with
      | false => rw [hs] at h'; cases h'
      | true =>
        rw [hs] at h'
        simp only [cond_true] at h'
        have hsat : Sat { w with drawn := w.drawn + 1 } σ := fun c r hc => Row.sat_congr rfl (h5 c r hc)
        have hI : DInv T n ops rs ι τ σ w (Array.replicate ops.size false) [] (fun _ => none) ev τ ι σ tmps { w with drawn := w.drawn + 1 } := by
          have hne : ∀ i, (Array.replicate ops.size false)[i]? ≠ some true := fun i => by
            rw [Array.getElem?_replicate]; split <;> simp
          exact {
            lsz := by simp
            lcl := fun i hi => absurd hi (hne i)
            sub := fun i hi => absurd hi (hne i)
            topo := .nil
            rng := fun i hi => by cases hi
            sz := h3
            mks := ⟨h6.nodup, h6.free, h6.obj⟩
            sat := hsat
            hr := h4
            ext := Ext.refl _ _
            fr := ⟨Nat.le_refl _, fun _ _ _ => rfl, fun c hc => .inl hc, rfl, rfl, rfl⟩
            env := fun t v hv => .inr (envR_T h2 hv)
            pend := fun i o hi => by cases hi
            minj := fun i j m hi => by cases hi
            mlt := fun i m hi => by cases hi }
        have hD : DM 0 [] := fun i => by simp [hasB]
        obtain ⟨f', done', L', mp', ev', τ', g1, g2, g3, g4⟩ := hI.ahead (sokB_ok hs) hD h'
        refine draw_go hT hz hcall hfn (sokB_ok hs) hdo ops.size (w.tape w.drawn (.order b.fn id)) ?_ g1 g2 g3 g4 (.one ?_)
        · simp
        · rw [stepR_region_draw]
          unfold Region.schedule
          rw [hmix]
          rfl
end

theorem run_regC {P : Program} {T : Nat → Option TInf} {call : CallT} (hmix : P.follows .mixedOrders = true) (hT : TOk P T) (hz : TCst T) (hcall : CallOk P T call) {f : FuncId} (hfn : ∃ fn, P.funcs[f]? = some fn) {ro : Option Nat} {n id : Nat} {ops : Array Oper} {draw : Bool} {k : List Item}
    {e : Env} {Q : Fin → SHeap → Prop} {σ : SHeap} {ev : HT Value} {τ : VH} {ι : Ren} (he : EnvR ι ev e) (hr : HR T ι τ σ) {res : RRes} (h : regC T call n ops draw ev τ = some res)
    (hok : ∀ ev' τ', res = .ok ev' τ' → ∀ ι' e' σ', Ext ι τ ι' τ' → EnvR ι' ev' e' → HR T ι' τ' σ' → Run P f ro n k e' Q σ')
    (hpan : ∀ v τ', res = .pan v τ' → ∀ ι' v' σ', Ext ι τ ι' τ' → VR ι' v v' → HR T ι' τ' σ' → Q (.pan (chain v')) σ') : Run P f ro n (.code (.region id ops draw) :: k) e Q σ := by
  intro b cs w tmps rs h1 h2 h3 h4 h5 h6 h7 h8
  have := region_out (b := b) (cs := cs) (k := k) (id := id) hmix hT hz hcall (h1 ▸ hfn) (envR_env he h5) h4 hr h8 h6 h
  cases res with
  | ok ev' τ' =>
    obtain ⟨ι', tmps', w', σ', x1, x2, x3, x4, x5, x6, x7, x8⟩ := this
    obtain ⟨o, w2, σ2, hq, r1, r2, r3⟩ := hok ev' τ' rfl ι' (envT tmps') σ' x1 x2 x4 b cs w' tmps' rs h1 h2 h3 x3 (envT_ok _) x6 h7 x5
    exact ⟨o, w2, σ2, hq, r1, (FrM.of x7).trans r2, r3.steps x8⟩
  | pan v τ' =>
    obtain ⟨ι', v', w', σ', x1, x2, x3, x4, x5, x6⟩ := this
    exact ⟨_, w', σ', hpan v τ' rfl ι' v' σ' x1 x2 x3, x4, x5, x6⟩

end Go.Sep
