/- Regions that draw their order: each order comes to what the one order came to. -/
import Derived.Test.YtgadojhdajmidaaGreatDoorCloF
set_option linter.unusedSimpArgs false
set_option linter.unusedVariables false
namespace Go.Sep

theorem stepVal_kind {T : Nat → Option TInf} {ops : Array Oper} {o : Oper} {ev : HT Value} {τ τ' : VH} (hk : knd o.op ≠ 0) {v : Value} (h : stepVal T ops o ev τ = some v) : stepVal T ops o ev τ' = some v := by
  unfold stepVal at h ⊢
  have : Nat.beq (knd o.op) 0 = false := by
    cases hb : Nat.beq (knd o.op) 0 with
    | false => rfl
    | true => exact absurd (Nat.eq_of_beq_eq_true hb) hk
  rw [this] at h ⊢
  split at h
  · exact h
  · split at h <;> cases h
  · cases h

theorem set_get {listed : Array Bool} {i j : Nat} : (listed.setIfInBounds i true)[j]? = if i = j ∧ i < listed.size then some true else listed[j]? := by
  by_cases h : i = j
  · subst h
    by_cases hi : i < listed.size
    · simp [hi]
    · simp [hi]
  · rw [Array.getElem?_setIfInBounds_ne h, if_neg (by simp [h])]

section
variable {T : Nat → Option TInf} {n : Nat} {ops : Array Oper} {rs : List Nat} {ι0 : Ren} {τ0 : VH} {σ0 : SHeap} {w0 : World} {listed : Array Bool} {L : List Nat} {mp : Nat → Option Nat} {ev : HT Value} {τ : VH} {ι : Ren} {σ : SHeap} {tmps : Array Value} {w : World}

/-- The machine has made a pending operation. -/
theorem DInv.mark (h : DInv T n ops rs ι0 τ0 σ0 w0 listed L mp ev τ ι σ tmps w) {i : Nat} {o : Oper} (ho : ops[i]? = some o) (hi : i ∈ L) (hp : ∀ j ∈ pre ops i, listed[j]? = some true)
    {ι' : Ren} {σ' : SHeap} {w' : World} {v v' : Value} {d : Nat} (hd : o.dst = some d) (hv : ev.get d = some v) (hvr : VR ι' v v') (hle : RLe ι ι') (hr : HR T ι' τ σ') (hs : Sat w' σ') (hm : Marks rs σ' w') (hx : Ext ι0 τ0 ι' τ) (hf : Fr σ0 σ' w0 w')
    (hpn : ∀ j m, j ≠ i → mp j = some m → ι m = none → ι' m = none) (hdl : d < tmps.size) :
    DInv T n ops rs ι0 τ0 σ0 w0 (listed.setIfInBounds i true) L mp ev τ ι' σ' ((⟨tmps, marks rs⟩ : Act).put o.dst v').tmps w' := by
  have hlt : i < listed.size := by rw [h.lsz]; exact (Array.getElem?_eq_some_iff.1 ho).1
  have up : ∀ {j}, listed[j]? = some true → (listed.setIfInBounds i true)[j]? = some true := fun hj => by rw [set_get]; split <;> first | rfl | exact hj
  have dn : ∀ {j}, (listed.setIfInBounds i true)[j]? ≠ some true → j ≠ i ∧ listed[j]? ≠ some true := fun {j} hj => ⟨fun e => hj (by rw [set_get, if_pos ⟨e.symm, hlt⟩]), fun e => hj (up e)⟩
  refine { h with lsz := by simpa using h.lsz, lcl := fun a ha j hj => up ?_, sub := fun a ha => ?_, sz := by rw [hd]; simpa [Act.put] using h.sz, mks := hm, sat := hs, hr := hr, ext := hx, fr := hf, env := fun t x hx' => ?_, pend := fun j oj hj hjl hoj => ?_ }
  · rw [set_get] at ha
    split at ha
    · rename_i hc; obtain ⟨rfl, _⟩ := hc; exact hp j hj
    · exact h.lcl a ha j hj
  · rw [set_get] at ha
    split at ha
    · rename_i hc; obtain ⟨rfl, _⟩ := hc; exact hi
    · exact h.sub a ha
  · rw [hd]
    simp only [Act.put]
    by_cases ht : t = d
    · subst ht
      rw [hv] at hx'; cases hx'
      exact .inr ⟨v', by simp [hdl], hvr⟩
    · rcases h.env t x hx' with ⟨j, oj, h1, h2, h3, h4⟩ | ⟨y, h1, h2⟩
      · refine .inl ⟨j, oj, h1, ?_, h3, h4⟩
        rw [set_get]
        split
        · rename_i hc
          obtain ⟨rfl, _⟩ := hc
          rw [ho] at h3; cases h3
          rw [hd] at h4; cases h4
          exact absurd rfl ht
        · exact h2
      · exact .inr ⟨y, by rw [Array.getElem?_setIfInBounds_ne (Ne.symm ht)]; exact h1, h2.mono hle⟩
  · obtain ⟨hne, hjl'⟩ := dn hjl
    exact (h.pend j oj hj hjl' hoj).next (fun _ _ => rfl) (fun _ _ => rfl) (fun _ _ _ _ hv' => hv') fun m row g1 g2 g3 g4 => ⟨g1, hpn j m hne g1 g2, g3, g4⟩

/-- The machine has made an operation that is no pending one. -/
theorem DInv.eff (h : DInv T n ops rs ι0 τ0 σ0 w0 listed L mp ev τ ι σ tmps w) (hok : SOk ops) {i : Nat} {o : Oper} (ho : ops[i]? = some o) (hi : i ∉ L) (hp : ∀ j ∈ pre ops i, listed[j]? = some true)
    {ι' : Ren} {τ' : VH} {σ' : SHeap} {w' : World} {v v' : Value} (hd : dstOk tmps.size o.dst = true) (hvr : VR ι' v v') (hx : Ext ι τ ι' τ') (hr : HR T ι' τ' σ') (hs : Sat w' σ') (hm : Marks rs σ' w') (hf : Fr σ0 σ' w0 w')
    (hre : ∀ j oj d vj, j ∈ L → listed[j]? ≠ some true → ops[j]? = some oj → oj.dst = some d → ev.get d = some vj → stepVal T ops oj ev τ = some vj → stepVal T ops oj (putC ev o.dst v) τ' = some vj) :
    DInv T n ops rs ι0 τ0 σ0 w0 (listed.setIfInBounds i true) (i :: L) mp (putC ev o.dst v) τ' ι' σ' ((⟨tmps, marks rs⟩ : Act).put o.dst v').tmps w' := by
  have hlt : i < listed.size := by rw [h.lsz]; exact (Array.getElem?_eq_some_iff.1 ho).1
  have up : ∀ {j}, listed[j]? = some true → (listed.setIfInBounds i true)[j]? = some true := fun hj => by rw [set_get]; split <;> first | rfl | exact hj
  have dn : ∀ {j}, (listed.setIfInBounds i true)[j]? ≠ some true → j ≠ i ∧ listed[j]? ≠ some true := fun {j} hj => ⟨fun e => hj (by rw [set_get, if_pos ⟨e.symm, hlt⟩]), fun e => hj (up e)⟩
  refine { lsz := by simpa using h.lsz, lcl := fun a ha j hj => up ?_, sub := fun a ha => ?_, topo := .cons h.topo hi fun j hj => h.sub j (hp j hj), rng := fun a ha => ?_, sz := ?_, mks := hm, sat := hs, hr := hr, ext := h.ext.trans hx, fr := hf, env := fun t x hx' => ?_, pend := fun j oj hj hjl hoj => ?_, minj := h.minj, mlt := fun j m hj => Nat.lt_of_lt_of_le (h.mlt j m hj) hx.nx }
  · rw [set_get] at ha
    split at ha
    · rename_i hc; obtain ⟨rfl, _⟩ := hc; exact hp j hj
    · exact h.lcl a ha j hj
  · rw [set_get] at ha
    split at ha
    · rename_i hc; obtain ⟨rfl, _⟩ := hc; simp
    · exact List.mem_cons_of_mem _ (h.sub a ha)
  · rcases List.mem_cons.1 ha with rfl | ha
    · exact (Array.getElem?_eq_some_iff.1 ho).1
    · exact h.rng a ha
  · have := h.sz
    cases o.dst <;> simpa [Act.put] using this
  · by_cases ht : o.dst = some t
    · rw [ht] at hx' hd ⊢
      rw [putC_get_same] at hx'; cases hx'
      exact .inr ⟨v', by simp [Act.put, dstOk_lt hd t rfl], hvr⟩
    · rw [putC_get_ne ht] at hx'
      rcases h.env t x hx' with ⟨j, oj, h1, h2, h3, h4⟩ | ⟨y, h1, h2⟩
      · refine .inl ⟨j, oj, List.mem_cons_of_mem _ h1, ?_, h3, h4⟩
        rw [set_get]
        split
        · rename_i hc
          obtain ⟨rfl, _⟩ := hc
          exact absurd h1 hi
        · exact h2
      · refine .inr ⟨y, ?_, h2.mono hx.le⟩
        cases hdd : o.dst with
        | none => exact h1
        | some d =>
          rw [hdd] at ht
          simp only [Act.put]
          rw [Array.getElem?_setIfInBounds_ne (fun e => ht (by rw [e]))]; exact h1
  · obtain ⟨hne, hjl'⟩ := dn hjl
    rcases List.mem_cons.1 hj with rfl | hj
    · exact absurd rfl hne
    · obtain ⟨a1, a2⟩ := h.apart hok ho hi (.inr hp) hj hjl' hoj
      refine (h.pend j oj hj hjl' hoj).next (fun t ht => putC_get_ne (a1 t ht)) (fun d hd' => putC_get_ne (a2 d hd')) (fun d vj hdj hvj hsv => hre j oj d vj hj hjl' hoj hdj hvj hsv) fun m row g1 g2 g3 g4 => ?_
      obtain ⟨k1, k2⟩ := hx.old m g4 g2
      exact ⟨g1, k1, by rw [k2, g3], Nat.lt_of_lt_of_le g4 hx.nx⟩
end

/-! ### Steps of the machine -/

section
variable {P : Program} {T : Nat → Option TInf} {n : Nat} {ops : Array Oper} {rs : List Nat} {ι0 : Ren} {τ0 : VH} {σ0 : SHeap} {w0 : World} {listed : Array Bool} {L : List Nat} {mp : Nat → Option Nat} {ev : HT Value} {τ : VH} {ι : Ren} {σ : SHeap} {tmps : Array Value} {w : World}
variable {b : Frame} {cs : List Frame} {k : List Item}

theorem skip_step {o : Oper} {i : Nat} {rest : List Nat} (ho : ops[i]? = some o) (hw : Region.wanted o (yielded ops tmps) = false) :
    step P (lone (b.atR ⟨tmps, marks rs⟩ (.inRegion ops (i :: rest) :: k)) cs w) = .next (lone (b.atR ((⟨tmps, marks rs⟩ : Act).put o.dst undef) (.inRegion ops rest :: k)) cs w) := by
  have := stepR_op_skip (P := P) (b := b) (a := ⟨tmps, marks rs⟩) (k := k) (cs := cs) (w := w) (ops := ops) (i := i) (rest := rest) (by simp [ho, hw])
  simpa [ho] using this

/-- The machine makes a pending operation. -/
theorem DInv.doPend (hT : TOk P T) (hz : TCst T) {call : CallT} (hcall : CallOk P T call) (hfn : ∃ fn, P.funcs[b.fn]? = some fn) (hok : SOk ops) (hdo : ∀ (i : Nat) (o : Oper), ops[i]? = some o → dstOk n o.dst = true)
    (h : DInv T n ops rs ι0 τ0 σ0 w0 listed L mp ev τ ι σ tmps w) {i : Nat} {o : Oper} (ho : ops[i]? = some o) (hi : i ∈ L) (hil : listed[i]? ≠ some true) (hp : ∀ j ∈ pre ops i, listed[j]? = some true) (rest : List Nat) :
    ∃ ι' σ' tmps' w', DInv T n ops rs ι0 τ0 σ0 w0 (listed.setIfInBounds i true) L mp ev τ ι' σ' tmps' w' ∧
      Steps P (lone (b.atR ⟨tmps, marks rs⟩ (.inRegion ops (i :: rest) :: k)) cs w) (lone (b.atR ⟨tmps', marks rs⟩ (.inRegion ops rest :: k)) cs w') := by
  obtain ⟨hk, d, v, hd, hv, hc⟩ := h.pend i o hi hil ho
  have hreads := h.reads hok ho hp
  have hdn : dstOk tmps.size o.dst = true := by rw [h.sz]; exact hdo i o ho
  have hdl : d < tmps.size := dstOk_lt hdn d hd
  have hpa : ∀ v', (⟨((⟨tmps, marks rs⟩ : Act).put o.dst v').tmps, marks rs⟩ : Act) = (⟨tmps, marks rs⟩ : Act).put o.dst v' := fun v' => by cases o.dst <;> rfl
  have old : ∀ {ι'}, Ext ι τ ι' τ → ∀ j m, j ≠ i → mp j = some m → ι m = none → ι' m = none := fun hx j m _ hj hn => (hx.old m (h.mlt j m hj) hn).1
  rcases hc with hc | ⟨hg, vs, m, row, hvs, hk1, hal, hmi, hm0, hrow, hmlt, hm00⟩
  · unfold stepVal at hc
    split at hc
    · rename_i hg
      cases hc
      have hw := gd_read hreads hg
      refine ⟨ι, σ, _, w, h.mark ho hi hp hd hv undef_vr (RLe.refl ι) h.hr h.sat h.mks h.ext h.fr (old (Ext.refl _ _)) hdl, .one ?_⟩
      rw [hpa]; exact skip_step ho hw
    · rename_i hg
      have hw := gd_read hreads hg
      split at hc
      · rename_i vs hvs
        cases hk0 : Nat.beq (knd o.op) 0 with
        | false => rw [hk0] at hc; cases hc
        | true =>
          rw [hk0] at hc
          have hop := opC_st (call := call) (Nat.eq_of_beq_eq_true hk0) hc
          obtain ⟨vs', he, hvr⟩ := vals_read (rds_vals hreads) hvs
          obtain ⟨ι', v', w', σ', x1, x2, x3, x4, x5⟩ := opC_exec hT hz hcall (b := b) (cs := cs) (k := k) (rest := rest) hfn h.mks h.sat h.hr ho hw hdn hvr he hop
          rcases x5 with ⟨_, y1, y2⟩ | ⟨y0, _⟩
          · refine ⟨ι', σ', _, w', h.mark ho hi hp hd hv x2 x1.le x3 x4 (h.mks.next y1) (h.ext.trans x1) (h.fr.trans y1) (old x1) hdl, ?_⟩
            rw [hpa]; exact y2
          · cases y0
      · cases hc
    · cases hc
  · have hw := gd_read hreads hg
    obtain ⟨vs', he, hvr⟩ := vals_read (rds_vals hreads) hvs
    obtain ⟨val, rowf, g1, g2⟩ := alV_ok hz hvr he hal
    have hop : opW P T tmps.size (envT tmps) o σ (fun _ _ => False) (fun e' σ' => ∃ b, σ b = none ∧ e' = (envT tmps).put o.dst (val b) ∧ σ' = σ.set b rowf) := by
      unfold opW
      rw [hdn]
      have hef := g2 σ (fun v σ' => ∃ b, σ b = none ∧ (envT tmps).put o.dst v = (envT tmps).put o.dst (val b) ∧ σ' = σ.set b rowf) fun b hb => ⟨b, hb, rfl, rfl⟩
      obtain ⟨dst, op, type, pos, after, guard⟩ := o
      simp only at hk1 hef ⊢
      cases op with
      | panic => simp [knd] at hk1
      | call c =>
        obtain ⟨callee, args, ats⟩ := c
        cases callee with
        | value f => simp [knd] at hk1
        | builtin b => exact hef
        | invoke r m => exact hef
      | _ => exact hef
    rcases op_exec hT hop (cs := cs) hfn (envT_ok tmps) h.mks h.sat (rest := rest) (k := k) ho hw with ⟨v1, w', σ', ⟨b1, hb1, he1, rfl⟩, s1, s2, s3⟩ | ⟨fin, w', σ', hf, _⟩
    · have hv1 : v1 = val b1 := by
        rw [hd] at he1
        have h6 := congrFun he1 d
        have hbb : Nat.beq d d = true := by simp
        simp only [Env.put, Env.set, hbb, cond_true] at h6
        simpa using h6
      subst hv1
      obtain ⟨r1, r2⟩ := g1 b1 (ι.add m ⟨b1, 0, 0⟩) (Ren.add_same ..)
      obtain ⟨q1, q2⟩ := h.hr.real hm0 hmlt hrow hb1 r2
      refine ⟨ι.add m ⟨b1, 0, 0⟩, _, _, w', h.mark ho hi hp hd hv r1 q1 q2 s1 (h.mks.next s2) ?_ (h.fr.trans s2) ?_ hdl, ?_⟩
      · refine ⟨h.ext.le.trans q1, fun c hc hn => ?_, h.ext.nx⟩
        obtain ⟨t1, t2⟩ := h.ext.old c hc hn
        exact ⟨by rw [Ren.add_ne _ _ (by omega)]; exact t1, t2⟩
      · intro j m' hj hjm hn
        have : m' ≠ m := fun e => hj (h.minj j i m (e ▸ hjm) hmi)
        rw [Ren.add_ne _ _ this]; exact hn
      · rw [hpa]; exact s3
    · exact hf.elim
end

end Go.Sep
