/- Regions that draw their order: what holds on the way. -/
import Derived.Test.YtgadojhdajmidaaGreatDoorCloE
set_option linter.unusedSimpArgs false
set_option linter.unusedVariables false
namespace Go.Sep

theorem vals_agree {ev ev1 : HT Value} : ∀ {l : List Operand}, (∀ t ∈ l.filterMap tmpOf, ev1.get t = ev.get t) → valsC ev1 l = valsC ev l
  | [], _ => rfl
  | x :: l, h => by
    rw [valsC_cons, valsC_cons]
    have h1 : valC ev1 x = valC ev x := by
      cases x with
      | tmp t => exact h t (by simp [tmpOf])
      | _ => rfl
    have h2 : valsC ev1 l = valsC ev l := vals_agree fun t ht => h t (by
      rw [List.mem_filterMap] at ht ⊢
      obtain ⟨y, hy, hz⟩ := ht
      exact ⟨y, by simp [hy], hz⟩)
    rw [h1, h2]

theorem gd_agree {ops : Array Oper} {o : Oper} {ev ev1 : HT Value} (h : ∀ t ∈ rds ops o, ev1.get t = ev.get t) : gdC ops o ev1 = gdC ops o ev := by
  unfold gdC
  cases hg : o.guard with
  | none => rfl
  | some p =>
    obtain ⟨j, want⟩ := p
    simp only
    cases hu : (ops[j]?).bind (·.dst) with
    | none => rfl
    | some u =>
      simp only
      rw [h u (by simp [rds, gtmp, hg, hu])]

theorem rds_vals {ops : Array Oper} {o : Oper} {p : Nat → Prop} (h : ∀ t ∈ rds ops o, p t) : ∀ t ∈ (opnds o.op).filterMap tmpOf, p t := fun t ht => h t (by simp only [rds, List.mem_append]; exact .inl ht)

theorem step_agree {T : Nat → Option TInf} {ops : Array Oper} {o : Oper} {ev ev1 : HT Value} {τ : VH} (h : ∀ t ∈ rds ops o, ev1.get t = ev.get t) : stepVal T ops o ev1 τ = stepVal T ops o ev τ := by
  unfold stepVal
  rw [gd_agree h, vals_agree (rds_vals h)]

theorem vals_read {ι : Ren} {ev : HT Value} {tmps : Array Value} : ∀ {l : List Operand} {vs : List Value}, (∀ t ∈ l.filterMap tmpOf, ∀ v, ev.get t = some v → ∃ v', tmps[t]? = some v' ∧ VR ι v v') → valsC ev l = some vs →
    ∃ vs', Vals (envT tmps) l vs' ∧ VRs ι vs vs'
  | [], vs, _, h => by cases h; exact ⟨[], rfl, .nil⟩
  | x :: l, vs, hr, h => by
    rw [valsC_cons] at h
    split at h
    · rename_i v hv
      split at h
      · rename_i ws hw
        cases h
        have h1 : ∃ v', (envT tmps).val x = some v' ∧ VR ι v v' := by
          cases x with
          | tmp t =>
            obtain ⟨v', h1, h2⟩ := hr t (by simp [tmpOf]) v hv
            exact ⟨v', by simp only [Env.val, envT_of h1], h2⟩
          | const c =>
            simp only [valC] at hv
            cases hc : cst c with
            | false => rw [hc] at hv; cases hv
            | true => rw [hc] at hv; cases hv; exact ⟨_, rfl, cst_ok hc⟩
          | func f => cases hv; exact ⟨_, rfl, .func .nil .nil⟩
          | global g => cases hv
        obtain ⟨v', h1, h2⟩ := h1
        obtain ⟨ws', h3, h4⟩ := vals_read (fun t ht => hr t (by
          rw [List.mem_filterMap] at ht ⊢
          obtain ⟨y, hy, hz⟩ := ht
          exact ⟨y, by simp [hy], hz⟩)) hw
        refine ⟨v' :: ws', ?_, .cons h2 h4⟩
        simp only [Vals, List.map_cons, h1] at h3 ⊢
        rw [h3]
      · cases h
    · cases h

theorem gd_read {ι : Ren} {ops : Array Oper} {o : Oper} {ev : HT Value} {tmps : Array Value} (hr : ∀ t ∈ rds ops o, ∀ v, ev.get t = some v → ∃ v', tmps[t]? = some v' ∧ VR ι v v') {B : Bool} (h : gdC ops o ev = some B) :
    Region.wanted o (yielded ops tmps) = B := by
  unfold gdC at h
  unfold Region.wanted
  split at h
  · rename_i hg
    cases h; rw [hg]
  · rename_i j want hg
    rw [hg]
    simp only
    split at h
    · rename_i u hu
      split at h
      · rename_i B' hB
        cases h
        obtain ⟨v', h1, h2⟩ := hr u (by simp [rds, gtmp, hg, hu]) _ hB
        cases h2
        have hy : yielded ops tmps j = some B' := by
          unfold yielded; rw [hu]
          simp only [Option.bind_some, h1]
        rw [hy]; simp
      · rename_i hB
        cases h
        obtain ⟨v', h1, h2⟩ := hr u (by simp [rds, gtmp, hg, hu]) _ hB
        cases h2
        rename_i h3
        cases h3
        have hy : yielded ops tmps j = none := by
          unfold yielded; rw [hu]
          simp only [Option.bind_some, h1]
        rw [hy]; simp
      · cases h
    · cases h

/-! ### What steady values hang on -/

theorem stP_mono {T : Nat → Option TInf} {op : Op} {vs : List Value} {τ τ' : VH} (h : ∀ b r, τ.rows.get b = some r → τ'.rows.get b = some r) {v : Value} (hs : stP T op vs τ = some v) : stP T op vs τ' = some v := by
  have hld : ∀ {t b o v}, ldC T t b o τ = some v → ldC T t b o τ' = some v := by
    intro t b o v hl
    unfold ldC at hl ⊢
    cases hT : T t with
    | none => rw [hT] at hl; cases hl
    | some i =>
      rw [hT] at hl
      simp only at hl ⊢
      cases hb : τ.rows.get b with
      | none => rw [hb] at hl; cases hl
      | some r => rw [hb] at hl; rw [h b r hb]; exact hl
  have hcv : ∀ {s t x v}, cvC T s t x τ = some v → cvC T s t x τ' = some v := by
    intro s t x v hl
    have row : ∀ {β : Type} {b : Nat} {f : Option VRow → Option β} {v : β}, f none = none → f (τ.rows.get b) = some v → f (τ'.rows.get b) = some v := by
      intro β b f v h0 h1
      cases hb : τ.rows.get b with
      | none => rw [hb, h0] at h1; cases h1
      | some r => rw [hb] at h1; rw [h b r hb]; exact h1
    unfold cvC at hl ⊢
    split at hl <;> try (first | exact hl | cases hl; done)
    split at hl <;> try (first | exact hl | cases hl; done)
    · split at hl <;> try (first | exact hl | cases hl; done)
      split at hl <;> try (first | exact hl | cases hl; done)
      split at hl <;> try (first | exact hl | cases hl; done)
      rename_i a len c
      cases hz : Nat.beq len 0 with
      | true => rw [hz] at hl; exact hl
      | false =>
        rw [hz] at hl
        simp only [cond_false] at hl ⊢
        split at hl <;> try (first | exact hl | cases hl; done)
        rename_i b o
        cases hb : τ.rows.get b with
        | none => rw [hb] at hl; cases hl
        | some r => rw [hb] at hl; rw [h b r hb]; exact hl
    · split at hl <;> try (first | exact hl | cases hl; done)
      rename_i b o hq
      cases hb : τ.rows.get b with
      | none => rw [hb] at hl; split at hl <;> simp_all
      | some r => rw [hb] at hl; rw [h b r hb]; exact hl
    · split at hl <;> try (first | exact hl | cases hl; done)
      rename_i b o hq
      cases hb : τ.rows.get b with
      | none => rw [hb] at hl; split at hl <;> simp_all
      | some r => rw [hb] at hl; rw [h b r hb]; exact hl
  have hln : ∀ {t x v}, lenC T t x τ = some v → lenC T t x τ' = some v := by
    intro t x v hl
    unfold lenC at hl ⊢
    split at hl
    · rename_i d hd
      split at hl <;> try (first | exact hl | cases hl; done)
      rename_i r
      cases hb : τ.rows.get r with
      | none => rw [hb] at hl; cases hl
      | some x => rw [hb] at hl; rw [h r x hb]; exact hl
    · cases hl
  cases op with
  | pick => exact hs
  | load t a =>
    show stV T (.load t a) vs τ' = some v
    have hs' : stV T (.load t a) vs τ = some v := hs
    unfold stV at hs' ⊢
    simp only at hs' ⊢
    split at hs'
    · exact hld hs'
    · cases hs'
  | convert s t x =>
    show stV T (.convert s t x) vs τ' = some v
    have hs' : stV T (.convert s t x) vs τ = some v := hs
    unfold stV at hs' ⊢
    simp only at hs' ⊢
    split at hs'
    · exact hcv hs'
    · cases hs'
  | call c =>
    obtain ⟨callee, args, ats⟩ := c
    cases callee with
    | builtin b =>
      cases b with
      | len =>
        show stV T (.call { callee := .builtin .len, args, argTypes := ats }) vs τ' = some v
        have hs' : stV T (.call { callee := .builtin .len, args, argTypes := ats }) vs τ = some v := hs
        unfold stV at hs' ⊢
        simp only at hs' ⊢
        split at hs'
        · rename_i v' t' hat
          exact hln hs'
        · cases hs'
      | _ => exact hs
    | _ => exact hs
  | makeFunc fn f c => cases fn <;> exact hs
  | typeAssert x t u ok => cases ok <;> exact hs
  | _ => exact hs

/-! ### What holds -/

inductive Topo (ops : Array Oper) : List Nat → Prop
  | nil : Topo ops []
  | cons {i : Nat} {l : List Nat} (h : Topo ops l) (hi : i ∉ l) (hp : ∀ j ∈ pre ops i, j ∈ l) : Topo ops (i :: l)

theorem Topo.closed {ops : Array Oper} : ∀ {l : List Nat}, Topo ops l → ∀ i ∈ l, ∀ j ∈ pre ops i, j ∈ l
  | _, .nil, i, hi, j, hj => by cases hi
  | _, .cons h hi hp, i, him, j, hj => by
    rcases List.mem_cons.1 him with rfl | him
    · exact List.mem_cons_of_mem _ (hp j hj)
    · exact List.mem_cons_of_mem _ (h.closed i him j hj)

def Pend (T : Nat → Option TInf) (ops : Array Oper) (next0 : Nat) (mp : Nat → Option Nat) (ev : HT Value) (τ : VH) (ι : Ren) (i : Nat) (o : Oper) : Prop :=
  knd o.op ≤ 1 ∧ ∃ d v, o.dst = some d ∧ ev.get d = some v ∧ (stepVal T ops o ev τ = some v ∨
    (gdC ops o ev = some true ∧ ∃ vs m row, valsC ev (opnds o.op) = some vs ∧ knd o.op = 1 ∧ alV T o.op vs m = some (v, row) ∧ mp i = some m ∧ ι m = none ∧ τ.rows.get m = some row ∧ m < τ.next ∧ next0 ≤ m))

structure DInv (T : Nat → Option TInf) (n : Nat) (ops : Array Oper) (rs : List Nat) (ι0 : Ren) (τ0 : VH) (σ0 : SHeap) (w0 : World) (listed : Array Bool) (L : List Nat) (mp : Nat → Option Nat) (ev : HT Value) (τ : VH) (ι : Ren) (σ : SHeap) (tmps : Array Value) (w : World) : Prop where
  lsz : listed.size = ops.size
  lcl : ∀ i, listed[i]? = some true → ∀ j ∈ pre ops i, listed[j]? = some true
  sub : ∀ i, listed[i]? = some true → i ∈ L
  topo : Topo ops L
  rng : ∀ i ∈ L, i < ops.size
  sz : tmps.size = n
  mks : Marks rs σ w
  sat : Sat w σ
  hr : HR T ι τ σ
  ext : Ext ι0 τ0 ι τ
  fr : Fr σ0 σ w0 w
  env : ∀ t v, ev.get t = some v → (∃ (i : Nat) (o : Oper), i ∈ L ∧ listed[i]? ≠ some true ∧ ops[i]? = some o ∧ o.dst = some t) ∨ ∃ v', tmps[t]? = some v' ∧ VR ι v v'
  pend : ∀ (i : Nat) (o : Oper), i ∈ L → listed[i]? ≠ some true → ops[i]? = some o → Pend T ops τ0.next mp ev τ ι i o
  minj : ∀ i j m, mp i = some m → mp j = some m → i = j
  mlt : ∀ i m, mp i = some m → m < τ.next

section
variable {T : Nat → Option TInf} {n : Nat} {ops : Array Oper} {rs : List Nat} {ι0 : Ren} {τ0 : VH} {σ0 : SHeap} {w0 : World} {listed : Array Bool} {L : List Nat} {mp : Nat → Option Nat} {ev : HT Value} {τ : VH} {ι : Ren} {σ : SHeap} {tmps : Array Value} {w : World}

theorem DInv.reads (h : DInv T n ops rs ι0 τ0 σ0 w0 listed L mp ev τ ι σ tmps w) (hok : SOk ops) {i : Nat} {o : Oper} (ho : ops[i]? = some o) (hp : ∀ j ∈ pre ops i, listed[j]? = some true) :
    ∀ t ∈ rds ops o, ∀ v, ev.get t = some v → ∃ v', tmps[t]? = some v' ∧ VR ι v v' := by
  intro t ht v hv
  rcases h.env t v hv with ⟨i', o', h1, h2, h3, h4⟩ | h1
  · exfalso
    have hk := (h.pend i' o' h1 h2 h3).1
    by_cases he : i' = i
    · subst he
      rw [ho] at h3; cases h3
      obtain ⟨d, hd, hn, _⟩ := hok.dst i' o ho hk
      rw [h4] at hd; cases hd
      exact hn ht
    · exact h2 (hok.rd i o i' o' t ho h3 ht h4 hk he (fun a => listed[a]? = some true) h.lcl hp)
  · exact h1

/-- What is pending does not look at what a further operation writes. -/
theorem DInv.apart (h : DInv T n ops rs ι0 τ0 σ0 w0 listed L mp ev τ ι σ tmps w) (hok : SOk ops) {k : Nat} {ok : Oper} (hk : ops[k]? = some ok) (hL : k ∉ L) (hkn : knd ok.op ≤ 1 ∨ ∀ j ∈ pre ops k, listed[j]? = some true)
    {i : Nat} {o : Oper} (hi : i ∈ L) (hl : listed[i]? ≠ some true) (ho : ops[i]? = some o) : (∀ t ∈ rds ops o, ok.dst ≠ some t) ∧ (∀ d, o.dst = some d → ok.dst ≠ some d) := by
  have hne : k ≠ i := fun e => hL (e ▸ hi)
  have hcl : Star ops i k → False := fun hs => hL (hs (· ∈ L) (fun a ha j hj => h.topo.closed a ha j hj) (fun j hj => h.topo.closed i hi j hj))
  refine ⟨fun t ht hd => ?_, fun d hd hd' => ?_⟩
  · rcases hkn with h1 | h1
    · exact hcl (hok.rd i o k ok t ho hk ht hd h1 hne)
    · rcases hok.rd2 i o k ok t ho hk ht hd hne with h2 | h2
      · exact hcl h2
      · exact hl (h2 (fun a => listed[a]? = some true) h.lcl h1)
  · obtain ⟨d', h1, _, h2⟩ := hok.dst i o ho (h.pend i o hi hl ho).1
    rw [hd] at h1; cases h1
    exact hne (h2 k ok hk hd')

theorem putC_get_ne {ev : HT Value} {d : Option Nat} {v : Value} {t : Nat} (h : d ≠ some t) : (putC ev d v).get t = ev.get t := by
  cases d with
  | none => rfl
  | some d => exact HT.upd_ne _ _ (fun e => h (by rw [e]))

theorem putC_get_same {ev : HT Value} {d : Nat} {v : Value} : (putC ev (some d) v).get d = some v := HT.upd_same ..

/-- A pending operation stays so. -/
theorem Pend.next {next0 : Nat} {i : Nat} {o : Oper} (h : Pend T ops next0 mp ev τ ι i o) {ev' : HT Value} {τ' : VH} {ι' : Ren} {mp' : Nat → Option Nat} (h1 : ∀ t ∈ rds ops o, ev'.get t = ev.get t) (h2 : ∀ d, o.dst = some d → ev'.get d = ev.get d)
    (h3 : ∀ d v, o.dst = some d → ev.get d = some v → stepVal T ops o ev τ = some v → stepVal T ops o ev' τ' = some v) (h4 : ∀ m row, mp i = some m → ι m = none → τ.rows.get m = some row → m < τ.next → mp' i = some m ∧ ι' m = none ∧ τ'.rows.get m = some row ∧ m < τ'.next) :
    Pend T ops next0 mp' ev' τ' ι' i o := by
  obtain ⟨hk, d, v, hd, hv, hc⟩ := h
  refine ⟨hk, d, v, hd, by rw [h2 d hd, hv], ?_⟩
  rcases hc with hc | ⟨hg, vs, m, row, g1, g2, g3, g4, g5, g6, g7, g8⟩
  · exact .inl (h3 d v hd hv hc)
  · obtain ⟨k1, k2, k3, k4⟩ := h4 m row g4 g5 g6 g7
    exact .inr ⟨by rw [gd_agree h1, hg], vs, m, row, by rw [vals_agree (rds_vals h1), g1], g2, g3, k1, k2, k3, k4, g8⟩

theorem stepVal_mono {o : Oper} {τ' : VH} (h : ∀ b r, τ.rows.get b = some r → τ'.rows.get b = some r) {v : Value} (hs : stepVal T ops o ev τ = some v) : stepVal T ops o ev τ' = some v := by
  unfold stepVal at hs ⊢
  split at hs
  · exact hs
  · split at hs
    · cases hk : Nat.beq (knd o.op) 0 with
      | true => rw [hk] at hs; exact stP_mono h hs
      | false => rw [hk] at hs; cases hs
    · cases hs
  · cases hs

/-- A steady operation is taken ahead. -/
theorem DInv.take (h : DInv T n ops rs ι0 τ0 σ0 w0 listed L mp ev τ ι σ tmps w) (hok : SOk ops) {k : Nat} {ok : Oper} (hk : ops[k]? = some ok) (hL : k ∉ L) (hkn : knd ok.op ≤ 1) (hp : ∀ j ∈ pre ops k, j ∈ L)
    {v : Value} (hv : stepVal T ops ok ev τ = some v) : DInv T n ops rs ι0 τ0 σ0 w0 listed (k :: L) mp (putC ev ok.dst v) τ ι σ tmps w := by
  obtain ⟨d, hd, hdr, hdu⟩ := hok.dst k ok hk hkn
  have hnl : listed[k]? ≠ some true := fun e => hL (h.sub k e)
  refine { h with sub := fun i hi => List.mem_cons_of_mem _ (h.sub i hi), topo := .cons h.topo hL hp, rng := fun i hi => ?_, env := fun t x hx => ?_, pend := fun i o hi hl ho => ?_ }
  · rcases List.mem_cons.1 hi with rfl | hi
    · exact (Array.getElem?_eq_some_iff.1 hk).1
    · exact h.rng i hi
  · by_cases ht : ok.dst = some t
    · exact .inl ⟨k, ok, by simp, hnl, hk, ht⟩
    · rw [putC_get_ne ht] at hx
      rcases h.env t x hx with ⟨i, o, h1, h2⟩ | h1
      · exact .inl ⟨i, o, List.mem_cons_of_mem _ h1, h2⟩
      · exact .inr h1
  · have agree : ∀ {o : Oper}, (∀ t ∈ rds ops o, ok.dst ≠ some t) → ∀ t ∈ rds ops o, (putC ev ok.dst v).get t = ev.get t := fun ha t ht => putC_get_ne (ha t ht)
    rcases List.mem_cons.1 hi with rfl | hi
    · rw [hk] at ho; cases ho
      have ha := agree (o := ok) fun t ht e => by rw [hd] at e; cases e; exact hdr ht
      refine ⟨hkn, d, v, hd, by rw [hd]; exact putC_get_same, .inl ?_⟩
      rw [step_agree ha]; exact hv
    · obtain ⟨a1, a2⟩ := h.apart hok hk hL (.inl hkn) hi hl ho
      refine (h.pend i o hi hl ho).next (agree a1) (fun d' hd' => putC_get_ne (a2 d' hd')) (fun _ v' _ _ hv' => ?_) (fun m row g1 g2 g3 g4 => ⟨g1, g2, g3, g4⟩)
      rw [step_agree (agree a1)]; exact hv'

/-- A new block is made ahead. -/
theorem DInv.takeNew (h : DInv T n ops rs ι0 τ0 σ0 w0 listed L mp ev τ ι σ tmps w) (hok : SOk ops) {k : Nat} {ok : Oper} (hk : ops[k]? = some ok) (hL : k ∉ L) (hkn : knd ok.op = 1) (hp : ∀ j ∈ pre ops k, j ∈ L)
    (hg : gdC ops ok ev = some true) {vs : List Value} (hvs : valsC ev (opnds ok.op) = some vs) {v : Value} {row : VRow} (hv : alV T ok.op vs τ.next = some (v, row)) :
    DInv T n ops rs ι0 τ0 σ0 w0 listed (k :: L) (fun i => if i = k then some τ.next else mp i) (putC ev ok.dst v) (τ.add row) ι σ tmps w := by
  have hkn1 : knd ok.op ≤ 1 := by omega
  obtain ⟨d, hd, hdr, hdu⟩ := hok.dst k ok hk hkn1
  have hnl : listed[k]? ≠ some true := fun e => hL (h.sub k e)
  obtain ⟨x1, x2⟩ := h.hr.ahead row (alV_nofix hv)
  have hget : ∀ c, c ≠ τ.next → (τ.add row).rows.get c = τ.rows.get c := fun c hc => HT.upd_ne _ _ hc
  have hmono : ∀ b r, τ.rows.get b = some r → (τ.add row).rows.get b = some r := fun b r hb => by
    have : b ≠ τ.next := fun e => by subst e; rw [h.hr.top _ (Nat.le_refl _)] at hb; cases hb
    rw [hget b this]; exact hb
  refine { h with sub := fun i hi => List.mem_cons_of_mem _ (h.sub i hi), topo := .cons h.topo hL hp, rng := fun i hi => ?_, hr := x2, ext := h.ext.trans x1, env := fun t x hx => ?_, pend := fun i o hi hl ho => ?_, minj := fun i j m hi hj => ?_, mlt := fun i m hi => ?_ }
  · rcases List.mem_cons.1 hi with rfl | hi
    · exact (Array.getElem?_eq_some_iff.1 hk).1
    · exact h.rng i hi
  · by_cases ht : ok.dst = some t
    · exact .inl ⟨k, ok, by simp, hnl, hk, ht⟩
    · rw [putC_get_ne ht] at hx
      rcases h.env t x hx with ⟨i, o, h1, h2⟩ | h1
      · exact .inl ⟨i, o, List.mem_cons_of_mem _ h1, h2⟩
      · exact .inr h1
  · have agree : ∀ {o : Oper}, (∀ t ∈ rds ops o, ok.dst ≠ some t) → ∀ t ∈ rds ops o, (putC ev ok.dst v).get t = ev.get t := fun ha t ht => putC_get_ne (ha t ht)
    rcases List.mem_cons.1 hi with rfl | hi
    · rw [hk] at ho; cases ho
      have ha := agree (o := ok) fun t ht e => by rw [hd] at e; cases e; exact hdr ht
      refine ⟨hkn1, d, v, hd, by rw [hd]; exact putC_get_same, .inr ⟨by rw [gd_agree ha, hg], vs, τ.next, row, by rw [vals_agree (rds_vals ha), hvs], hkn, hv, if_pos rfl, h.hr.fresh, HT.upd_same .., Nat.lt_succ_self _, h.ext.nx⟩⟩
    · obtain ⟨a1, a2⟩ := h.apart hok hk hL (.inl hkn1) hi hl ho
      have hne : i ≠ k := fun e => hL (e ▸ hi)
      refine (h.pend i o hi hl ho).next (agree a1) (fun d' hd' => putC_get_ne (a2 d' hd')) (fun _ v' _ _ hv' => ?_) (fun m row' g1 g2 g3 g4 => ⟨?_, g2, hmono _ _ g3, Nat.lt_succ_of_lt g4⟩)
      · rw [step_agree (agree a1)]; exact stepVal_mono hmono hv'
      · simp only [if_neg hne]; exact g1
  · by_cases hik : i = k
    · by_cases hjk : j = k
      · rw [hik, hjk]
      · rw [if_pos hik] at hi; rw [if_neg hjk] at hj
        cases hi
        have := h.mlt j _ hj; omega
    · rw [if_neg hik] at hi
      by_cases hjk : j = k
      · rw [if_pos hjk] at hj
        cases hj
        have := h.mlt i _ hi; omega
      · rw [if_neg hjk] at hj
        exact h.minj i j m hi hj
  · by_cases hik : i = k
    · rw [if_pos hik] at hi; cases hi; exact Nat.lt_succ_self _
    · rw [if_neg hik] at hi
      exact Nat.lt_succ_of_lt (h.mlt i m hi)
end

end Go.Sep
