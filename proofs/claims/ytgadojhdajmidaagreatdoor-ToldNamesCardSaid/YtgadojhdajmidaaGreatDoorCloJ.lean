/- Closed runs of code: the evaluator. -/
import Derived.Test.YtgadojhdajmidaaGreatDoorCloI
set_option linter.unusedSimpArgs false
set_option linter.unusedVariables false
namespace Go.Sep

inductive VFin where
  | ret (v : Value)
  | pan (v : Value)
  | rnd (b : Bool)

noncomputable def resC (T : Nat → Option TInf) (ev : HT Value) (τ : VH) : List ResultVar → Option (List Value)
  | [] => some []
  | .tmp t :: rs => (match ev.get t, resC T ev τ rs with | some v, some vs => some (v :: vs) | _, _ => none)
  | .cell a t :: rs => (match ev.get a with
    | some (.pointer (some ⟨b, o, none⟩)) => (match ldC T t b o τ, resC T ev τ rs with | some v, some vs => some (v :: vs) | _, _ => none)
    | _ => none)

theorem resC_ok {T : Nat → Option TInf} {ι : Ren} {ev : HT Value} {τ : VH} {σ : SHeap} {e : Env} (he : EnvR ι ev e) (hr : HR T ι τ σ) : ∀ {rs : List ResultVar} {vs : List Value}, resC T ev τ rs = some vs →
    ∃ vs', VRs ι vs vs' ∧ ∀ K : List Value → Prop, K vs' → resW T e σ rs K
  | [], vs, h => by cases h; exact ⟨[], .nil, fun K hk => hk⟩
  | .tmp t :: rs, vs, h => by
    simp only [resC] at h
    split at h
    · rename_i v ws hv hw
      cases h
      obtain ⟨v', h1, h2⟩ := he t v hv
      obtain ⟨ws', h3, h4⟩ := resC_ok he hr hw
      refine ⟨v' :: ws', .cons h2 h3, fun K hk => ?_⟩
      refine optW_of (a := v') (by simp only [Env.val, h1]) ?_
      exact h4 _ hk
    · cases h
  | .cell a t :: rs, vs, h => by
    simp only [resC] at h
    split at h
    · rename_i b o hp
      split at h
      · rename_i v ws hv hw
        cases h
        obtain ⟨p', h1, h2⟩ := he a _ hp
        cases h2
        rename_i i hi
        obtain ⟨v', h3, h4⟩ := ldC_ok hr hi hv
        obtain ⟨ws', h5, h6⟩ := resC_ok he hr hw
        refine ⟨v' :: ws', .cons h3 h5, fun K hk => ?_⟩
        refine optW_of (a := .pointer (some ⟨i.blk, o + i.sh, none⟩)) (by simp only [Env.val, h1]) ?_
        simp only [asP]
        refine h4 _ ?_
        exact h6 _ hk
      · cases h
    · cases h

theorem retV_vr {ι : Ren} : ∀ {vs vs' : List Value}, VRs ι vs vs' → VR ι (retV vs) (retV vs')
  | _, _, .nil => .tuple .nil
  | _, _, .cons a .nil => a
  | _, _, .cons a (.cons b t) => .tuple (.cons a (.cons b t))

noncomputable def endC (l : Nat) (jump : Option Code) (τ : VH) : Option VH :=
  match τ.rows.get l with
  | some (.loop f n env ps as body _ _) => some (τ.put l (.loop f n env ps as body (if jump.isNone then .ready else .done) jump))
  | _ => none

noncomputable def beginC (l : Nat) (τ : VH) : Option VH :=
  match τ.rows.get l with
  | some (.loop f n env ps as body .ready pe) => some (τ.put l (.loop f n env ps as body .busy pe))
  | _ => none

/-- What a frame's rest needs. -/
structure FX where
  T : Nat → Option TInf
  call : CallT
  f : Nat
  n : Nat
  res : List ResultVar

noncomputable def retC (x : FX) (ro : Option Nat) (ev : HT Value) (τ : VH) : Option (VFin × VH) :=
  match ro with
  | none => (match resC x.T ev τ x.res with | some vs => some (.ret (retV vs), τ) | none => none)
  | some l => (match endC l (some .ret) τ with | some τ => some (.rnd false, τ) | none => none)

noncomputable def endOf (x : FX) (ro : Option Nat) (ev : HT Value) (τ : VH) : Option (VFin × VH) :=
  match ro with
  | none => (match resC x.T ev τ x.res with | some vs => some (.ret (retV vs), τ) | none => none)
  | some l => (match endC l none τ with | some τ => some (.rnd true, τ) | none => none)

abbrev GoT := List Item → HT Value → VH → Option (VFin × VH)

noncomputable def regS (x : FX) (go : GoT) (ops : Array Oper) (draw : Bool) (k : List Item) (ev : HT Value) (τ : VH) : Option (VFin × VH) :=
  match regC x.T x.call x.n ops draw ev τ with
  | some (.ok ev τ) => go k ev τ
  | some (.pan v τ) => some (.pan v, τ)
  | none => none

noncomputable def condS (go : GoT) (c : Operand) (a b : Code) (k : List Item) (ev : HT Value) (τ : VH) : Option (VFin × VH) :=
  match valC ev c with
  | some (.bool B) => fB B fun B => go (.code (bif B then a else b) :: k) ev τ
  | _ => none

noncomputable def exitS (ro : Option Nat) (go : GoT) (id : Nat) (k : List Item) (ev : HT Value) (τ : VH) : Option (VFin × VH) :=
  match exitTo id k with
  | some k => go k ev τ
  | none => (match ro with
    | some l => (match endC l (some (.exit id)) τ with | some τ => some (.rnd false, τ) | none => none)
    | none => none)

noncomputable def rngS (x : FX) (ro : Option Nat) (go : GoT) (g : Operand) (ps : Array Tmp) (as body : Code) (k : List Item) (ev : HT Value) (τ : VH) : Option (VFin × VH) :=
  match valC ev g, (match ro with | none => some () | some l => (match τ.rows.get l with | some (.loop ..) => some () | _ => none)) with
  | some fv, some _ => (match x.call fv [.func (.yield τ.next) ⟨[]⟩ ⟨[]⟩] (τ.add (.loop x.f x.n ev ps.toList as body .ready none)) with
    | some (true, _, τ2) => (match τ2.rows.get τ.next with
      | some (.loop f n env ps as body st pe) => bif st == .busy then none else go ((pe.map Item.code).toList ++ k) ev (τ2.put τ.next (.loop f n env ps as body .exhausted pe))
      | _ => none)
    | some (false, v, τ2) => some (.pan v, τ2)
    | none => none)
  | _, _ => none

noncomputable def begS (ro : Option Nat) (go : GoT) (k : List Item) (ev : HT Value) (τ : VH) : Option (VFin × VH) :=
  match ro with
  | some l => (match beginC l τ with | some τ => go k ev τ | none => none)
  | none => none

noncomputable def codeS (x : FX) (ro : Option Nat) (go : GoT) (c : Code) (k : List Item) (ev : HT Value) (τ : VH) : Option (VFin × VH) :=
  match c with
  | .skip | .label _ => go k ev τ
  | .seq a b => go (.code a :: .code b :: k) ev τ
  | .block id a => go (.code a :: .inBlock id :: k) ev τ
  | .loop a => go (.code a :: .inLoop a :: k) ev τ
  | .scope a => go (.code a :: .inScope a :: k) ev τ
  | .cond c a b => condS go c a b k ev τ
  | .region _ ops draw => regS x go ops draw k ev τ
  | .exit id => exitS ro go id k ev τ
  | .goto l => (match gotoIn l k with | some k => go k ev τ | none => none)
  | .ret => retC x ro ev τ
  | .rangeFunc g ps as body => rngS x ro go g ps as body k ev τ
  | .refuse _ => none

noncomputable def itemS (x : FX) (ro : Option Nat) (go : GoT) (i : Item) (k : List Item) (ev : HT Value) (τ : VH) : Option (VFin × VH) :=
  match i with
  | .code c => codeS x ro go c k ev τ
  | .inBlock _ => go k ev τ
  | .inLoop a => go (.code a :: .inLoop a :: k) ev τ
  | .inScope _ => go k ev τ
  | .beginRound => begS ro go k ev τ
  | _ => none

noncomputable def cRun (x : FX) (ro : Option Nat) (F : Nat) : GoT :=
  Nat.rec (motive := fun _ => GoT) (fun _ _ _ => none)
    (fun _ go todo ev τ => List.rec (motive := fun _ => Option (VFin × VH)) (endOf x ro ev τ) (fun i k _ => itemS x ro go i k ev τ) todo) F

theorem cRun_nil (x : FX) (ro : Option Nat) (F : Nat) (ev : HT Value) (τ : VH) : cRun x ro (F + 1) [] ev τ = endOf x ro ev τ := rfl
theorem cRun_cons (x : FX) (ro : Option Nat) (F : Nat) (i : Item) (k : List Item) (ev : HT Value) (τ : VH) : cRun x ro (F + 1) (i :: k) ev τ = itemS x ro (cRun x ro F) i k ev τ := rfl

/-! ### Sound -/

inductive FinR (ι : Ren) : VFin → Fin → Prop
  | ret {v v' : Value} (h : VR ι v v') : FinR ι (.ret v) (.ret v')
  | pan {v v' : Value} (h : VR ι v v') : FinR ι (.pan v) (.pan (chain v'))
  | rnd (b : Bool) : FinR ι (.rnd b) (.rnd b)

inductive RoR (ι : Ren) : Option Nat → Option Nat → Prop
  | none : RoR ι none none
  | some {l : Nat} {i : RI} (h : ι l = some i) : RoR ι (some l) (some i.blk)

theorem RoR.mono {ι ι' : Ren} (hi : RLe ι ι') {a b : Option Nat} (h : RoR ι a b) : RoR ι' a b := by
  cases h with
  | none => exact .none
  | some h => exact .some (hi _ _ h)

def QC (T : Nat → Option TInf) (ι : Ren) (τ : VH) (o : VFin) (τ' : VH) : Fin → SHeap → Prop := fun fin σ' => ∃ ι', Ext ι τ ι' τ' ∧ HR T ι' τ' σ' ∧ FinR ι' o fin

theorem QC.ext {T : Nat → Option TInf} {ι ι1 : Ren} {τ τ1 τ' : VH} {o : VFin} (hx : Ext ι τ ι1 τ1) {fin : Fin} {σ : SHeap} (h : QC T ι1 τ1 o τ' fin σ) : QC T ι τ o τ' fin σ := by
  obtain ⟨ι', h1, h2, h3⟩ := h
  exact ⟨ι', hx.trans h1, h2, h3⟩

theorem loop_row {T : Nat → Option TInf} {ι : Ren} {τ : VH} {σ : SHeap} (hr : HR T ι τ σ) {l : Nat} {i : RI} (hi : ι l = some i) {f n : Nat} {env : HT Value} {ps : List Nat} {as body : Code} {st : LoopState} {pe : Option Code}
    (h : τ.rows.get l = some (.loop f n env ps as body st pe)) : ∃ r e, loopAt σ i.blk = some r ∧ r.state = st ∧ r.pending = pe ∧ EnvR ι env e ∧ LoopIs r f n ps as body e := by
  obtain ⟨r', h1, h2⟩ := hr.rows l i _ hi h
  obtain ⟨rec, e, rfl, h3, h4, h5, h6⟩ := h2
  exact ⟨rec, e, by simp [loopAt, h1], h3, h4, h5, h6⟩

theorem loop_put {T : Nat → Option TInf} {ι : Ren} {τ : VH} {σ : SHeap} (hr : HR T ι τ σ) {l : Nat} {i : RI} (hi : ι l = some i) {f n : Nat} {env : HT Value} {ps : List Nat} {as body : Code} {st : LoopState} {pe : Option Code}
    (h : τ.rows.get l = some (.loop f n env ps as body st pe)) {r : Loop} (hl : loopAt σ i.blk = some r) (st' : LoopState) (pe' : Option Code) :
    Ext ι τ ι (τ.put l (.loop f n env ps as body st' pe')) ∧ HR T ι (τ.put l (.loop f n env ps as body st' pe')) (σ.set i.blk (.obj (.loop { r with state := st', pending := pe' }))) := by
  obtain ⟨r2, e, h1, h2, h3, h4, h5⟩ := loop_row hr hi h
  rw [hl] at h1; cases h1
  exact hr.put hi h ⟨{ r with state := st', pending := pe' }, e, rfl, rfl, rfl, h4, ⟨h5.fn, h5.params, h5.assign, h5.body, h5.size, h5.env⟩⟩

end Go.Sep
