/- Closed runs of calls. -/
import Derived.Test.YtgadojhdajmidaaGreatDoorCloK
set_option linter.unusedSimpArgs false
set_option linter.unusedVariables false
namespace Go.Sep

structure FI where
  body : Code
  n : Nat
  res : List ResultVar

structure FIOk (P : Program) (g : Nat) (i : FI) : Prop where
  fn : ∃ fn, P.funcs[g]? = some fn ∧ fn.body = some i.body ∧ fn.ntmps = i.n ∧ fn.results.toList = i.res ∧ fn.name ≠ "runtime.NumGoroutine"

def FTOk (P : Program) (FT : Nat → Option FI) : Prop := ∀ g i, FT g = some i → FIOk P g i

abbrev XT := Nat → Option (CallT → List Value → VH → Option CRes)

/-- The functions that are answered by hand. -/
def XOk (P : Program) (T : Nat → Option TInf) (X : XT) : Prop :=
  ∀ g h, X g = some h → ∀ call, CallOk P T call → ∀ args τ r, h call args τ = some r → ∀ ι σ args', VRs ι args args' → HR T ι τ σ → CallF P g args' (RetR T ι τ r) σ

noncomputable def setsC (ev : HT Value) : List Nat → List Value → HT Value
  | t :: ts, v :: vs => setsC (ev.upd (some v) t) ts vs
  | _, _ => ev

def bigF : Nat := 1000000000000000

noncomputable def evF (T : Nat → Option TInf) (X : XT) (FT : Nat → Option FI) (d : Nat) : CallT :=
  Nat.rec (motive := fun _ => CallT) (fun _ _ _ => none)
    (fun _ call fv args τ => match fv with
      | .func (.func g) ⟨first⟩ ⟨caps⟩ => (match X g with
        | some h => h call (first ++ args ++ caps) τ
        | none => (match FT g with
          | some i => bif Nat.ble (lenL (first ++ args ++ caps)) i.n then (match cRun ⟨T, call, g, i.n, i.res⟩ none bigF [.code i.body] (upds (first ++ args ++ caps) .e 0) τ with
            | some (.ret v, τ) => some (true, v, τ)
            | some (.pan v, τ) => some (false, v, τ)
            | _ => none) else none
          | none => none))
      | .func (.yield l) ⟨[]⟩ ⟨[]⟩ => (match τ.rows.get l with
        | some (.loop f n env ps as body _ _) => bif (FT f).isSome && (Nat.beq (lenL args) (lenL ps) && ps.all fun p => Nat.blt p n) then (match cRun ⟨T, call, f, n, []⟩ (some l) bigF [.code as, .beginRound, .code body] (setsC env ps args) τ with
          | some (.rnd b, τ) => some (true, .bool b, τ)
          | _ => none) else none
        | _ => none)
      | _ => none) d

theorem evF_succ (T : Nat → Option TInf) (X : XT) (FT : Nat → Option FI) (d : Nat) (fv : Value) (args : List Value) (τ : VH) : evF T X FT (d + 1) fv args τ = (match fv with
      | .func (.func g) ⟨first⟩ ⟨caps⟩ => (match X g with
        | some h => h (evF T X FT d) (first ++ args ++ caps) τ
        | none => (match FT g with
          | some i => bif Nat.ble (lenL (first ++ args ++ caps)) i.n then (match cRun ⟨T, evF T X FT d, g, i.n, i.res⟩ none bigF [.code i.body] (upds (first ++ args ++ caps) .e 0) τ with
            | some (.ret v, τ) => some (true, v, τ)
            | some (.pan v, τ) => some (false, v, τ)
            | _ => none) else none
          | none => none))
      | .func (.yield l) ⟨[]⟩ ⟨[]⟩ => (match τ.rows.get l with
        | some (.loop f n env ps as body _ _) => bif (FT f).isSome && (Nat.beq (lenL args) (lenL ps) && ps.all fun p => Nat.blt p n) then (match cRun ⟨T, evF T X FT d, f, n, []⟩ (some l) bigF [.code as, .beginRound, .code body] (setsC env ps args) τ with
          | some (.rnd b, τ) => some (true, .bool b, τ)
          | _ => none) else none
        | _ => none)
      | _ => none) := rfl

theorem EnvR.set {ι : Ren} {ev : HT Value} {e : Env} (h : EnvR ι ev e) {d : Nat} {v v' : Value} (hv : VR ι v v') : EnvR ι (ev.upd (some v) d) (e.set d v') := by
  intro t x hx
  by_cases ht : t = d
  · subst ht
    rw [HT.upd_same] at hx; cases hx
    refine ⟨v', ?_, hv⟩
    have : Nat.beq t t = true := by simp
    simp [Env.set]
  · rw [HT.upd_ne _ _ ht] at hx
    obtain ⟨x', h1, h2⟩ := h t x hx
    refine ⟨x', ?_, h2⟩
    have : Nat.beq t d = false := by
      cases hb : Nat.beq t d with
      | false => rfl
      | true => exact absurd (Nat.eq_of_beq_eq_true hb) ht
    simp [Env.set, this, h1]

theorem EnvR.sets {ι : Ren} : ∀ {ps : List Nat} {vs vs' : List Value} {ev : HT Value} {e : Env}, EnvR ι ev e → VRs ι vs vs' → EnvR ι (setsC ev ps vs) (e.sets ps vs')
  | [], _, _, _, _, h, _ => by simpa [setsC, Env.sets] using h
  | _ :: _, _, _, _, _, h, .nil => by simpa [setsC, Env.sets] using h
  | _ :: _, _, _, _, _, h, .cons a t => by
    simp only [setsC, Env.sets]
    exact EnvR.sets (h.set a) t

theorem envOf_vr {ι : Ren} {vs vs' : List Value} (h : VRs ι vs vs') : EnvR ι (upds vs .e 0) (envOf vs') := by
  intro t v hv
  rw [upds_get] at hv
  split at hv
  · have : vs[t]? = some v := by simpa using hv
    obtain ⟨v', h1, h2⟩ := h.get this
    exact ⟨v', by simp [envOf, h1], h2⟩
  · cases hv

theorem evF_ok {P : Program} {T : Nat → Option TInf} {X : XT} {FT : Nat → Option FI} (hmix : P.follows .mixedOrders = true) (hT : TOk P T) (hz : TCst T) (hX : XOk P T X) (hF : FTOk P FT) : ∀ d, CallOk P T (evF T X FT d) := by
  intro d
  induction d with
  | zero => intro fv args τ r h; cases h
  | succ d ih =>
    intro fv args τ r h ι σ fv' args' hfv ha hr
    have h' := h
    rw [evF_succ] at h'
    clear h
    split at h'
    · rename_i g first caps
      cases hfv
      rename_i first' caps' hf1 hc1
      have hall : VRs ι (first ++ args ++ caps) (first' ++ args' ++ caps') := (hf1.append ha).append hc1
      show CallF P g (first' ++ args' ++ caps') (RetR T ι τ r) σ
      split at h'
      · rename_i hh hX'
        exact hX g hh hX' _ ih _ _ _ h' _ _ _ hall hr
      · split at h'
        · rename_i i hi
          obtain ⟨fn, k1, k2, k3, k4, k5⟩ := (hF g i hi).fn
          rw [lenL_eq] at h'
          cases hn : Nat.ble (first ++ args ++ caps).length i.n with
          | false => rw [hn] at h'; cases h'
          | true =>
            rw [hn] at h'
            simp only [cond_true] at h'
            have hn' := Nat.le_of_ble_eq_true hn
            have key : ∀ {o τ'}, cRun ⟨T, evF T X FT d, g, i.n, i.res⟩ none bigF [.code i.body] (upds (first ++ args ++ caps) .e 0) τ = some (o, τ') → Run P g none i.n [.code i.body] (envOf (first' ++ args' ++ caps')) (QC T ι τ o τ') σ :=
              fun hc => cRun_ok (x := ⟨T, evF T X FT d, g, i.n, i.res⟩) hmix hT hz ih (ro := none) ⟨fn, k1, fun _ => k4⟩ _ _ _ _ _ _ hc ι σ _ none (envOf_vr hall) hr .none
            have fin : ∀ {Q}, Run P g none i.n [.code i.body] (envOf (first' ++ args' ++ caps')) Q σ → (∀ o σ, Q o σ → finQ (RetR T ι τ r) o σ) → CallF P g (first' ++ args' ++ caps') (RetR T ι τ r) σ := fun hrun hq => by
              refine callF_of_run k1 k2 k5 ?_ ?_
              · rw [k3]
                have := hall.length
                omega
              · rw [k3]; exact hrun.mono hq
            split at h'
            · rename_i v τ1 hc
              cases h'
              refine fin (key hc) fun o σ' hq => ?_
              obtain ⟨ι', x1, x2, x3⟩ := hq
              cases x3
              rename_i v' hv
              exact ⟨ι', v', x1, hv, x2, rfl⟩
            · rename_i v τ1 hc
              cases h'
              refine fin (key hc) fun o σ' hq => ?_
              obtain ⟨ι', x1, x2, x3⟩ := hq
              cases x3
              rename_i v' hv
              exact ⟨ι', v', x1, hv, x2, rfl⟩
            · cases h'
        · cases h'
    · rename_i l
      cases hfv
      rename_i i hi
      split at h'
      · rename_i f n env ps as body st pe hrow
        rw [lenL_eq, lenL_eq] at h'
        cases hn : ((FT f).isSome && (Nat.beq args.length ps.length && ps.all fun p => Nat.blt p n)) with
        | false => rw [hn] at h'; cases h'
        | true =>
          rw [hn] at h'
          simp only [cond_true] at h'
          simp only [Bool.and_eq_true] at hn
          obtain ⟨hft, hlen, hps⟩ := hn
          obtain ⟨fi, hfi⟩ := Option.isSome_iff_exists.1 hft
          obtain ⟨fn, k1, _⟩ := (hF f fi hfi).fn
          obtain ⟨r2, e, m1, m2, m3, m4, m5⟩ := loop_row hr hi hrow
          split at h'
          · rename_i bb τ1 hc
            cases h'
            show RoundW P i.blk ([] ++ args') (RetR T ι τ (true, .bool bb, τ1)) σ
            refine round_of_run m1 m5 ?_ ?_ ?_
            · simp only [List.nil_append]; rw [ha.length]; exact Nat.eq_of_beq_eq_true hlen
            · intro p hp
              have := (List.all_eq_true.1 hps) p hp
              rw [blt_dec] at this
              exact of_decide_eq_true this
            · have := cRun_ok (x := ⟨T, evF T X FT d, f, n, []⟩) hmix hT hz ih (ro := some l) ⟨fn, k1, fun h => by cases h⟩ _ _ _ _ _ _ hc ι σ _ (some i.blk) (m4.sets ha) hr (.some hi)
              refine this.mono fun o σ' hq => ?_
              obtain ⟨ι', x1, x2, x3⟩ := hq
              cases x3
              exact ⟨ι', .bool bb, x1, .bool bb, x2, rfl⟩
          · cases h'
      · cases h'
    · cases h'

/-- Memory of which one variable is known: an integer of the library's. -/
def VH.base (G : Nat) (n : Int) (t : TypeId) : VH := ⟨.n .e (some (.fix G n t)) .e, 1⟩
def rowG (n : Int) (t : TypeId) : Row := .obj (.cells #[.int .i64 n] t)
def sG (G : Nat) (n : Int) (t : TypeId) : SHeap := fun b => bif Nat.beq b G then some (rowG n t) else none
def iG (G : Nat) : Ren := fun b => bif Nat.beq b 0 then some ⟨G, 0, 0⟩ else none

theorem sG_same (G : Nat) (n : Int) (t : TypeId) : sG G n t G = some (rowG n t) := by simp [sG]
theorem sG_ne {G b : Nat} (n : Int) (t : TypeId) (h : b ≠ G) : sG G n t b = none := by simp [sG, nbeq_ne h]

theorem HR.base (T : Nat → Option TInf) (G : Nat) (n : Int) (t : TypeId) : HR T (iG G) (VH.base G n t) (sG G n t) := by
  have h0 : ∀ b i, iG G b = some i → b = 0 ∧ i = ⟨G, 0, 0⟩ := by
    intro b i h
    cases hb : Nat.beq b 0 with
    | true => simp only [iG, hb, cond_true] at h; cases h; exact ⟨Nat.eq_of_beq_eq_true hb, rfl⟩
    | false => simp only [iG, hb, cond_false] at h; cases h
  have hget : ∀ b, b ≠ 0 → (VH.base G n t).rows.get b = none := by
    intro b hb
    cases b with
    | zero => exact absurd rfl hb
    | succ b => show (HT.n .e _ .e).get (b + 1) = none; rw [HT.get_s]; split <;> rfl
  refine ⟨fun b i r h hr => ?_, fun b c i j hb hc _ _ _ => ?_, fun b i h => ?_, fun b hb => hget b (by have : (VH.base G n t).next = 1 := rfl; omega), fun b g n' t' h => ?_⟩
  · obtain ⟨rfl, rfl⟩ := h0 b i h
    cases hr
    exact ⟨_, sG_same G n t, rfl, rfl⟩
  · rw [(h0 b i hb).1, (h0 c j hc).1]
  · rw [(h0 b i h).1]; exact Nat.one_pos
  · by_cases hb : b = 0
    · subst hb; simp [iG]
    · rw [hget b hb] at h; cases h

/-- What a closed run gives: its value; the variable that was known stays. -/
def ClosedG (P : Program) (G g : Nat) (args : List Value) (v : Value) : Prop :=
  ∀ (n : Int) (t : TypeId), CallF P g args (fun en σ => en = .returned v ∧ σ G = some (rowG n t)) (sG G n t)

noncomputable def outR (o : Option CRes) : Option (Bool × Value × Option VRow) := match o with | some r => some (r.1, r.2.1, r.2.2.rows.get 0) | none => none

theorem CallF.mono' {P : Program} {g : Nat} {args : List Value} {R R' : Ending → SHeap → Prop} {σ : SHeap} (h : CallF P g args R σ) (hr : ∀ e σ, R e σ → R' e σ) : CallF P g args R' σ := by
  rcases h with ⟨h1, h2⟩ | h
  · exact .inl ⟨h1, fun w hs => (h2 w hs).mono fun e w' ⟨σ', a, b⟩ => ⟨σ', hr _ _ a, b⟩⟩
  · exact .inr fun w hs => by
      obtain ⟨v, w', σ', a, b, c⟩ := h w hs
      exact ⟨v, w', σ', a, hr _ _ b, c⟩

theorem closed_run {P : Program} {T : Nat → Option TInf} {X : XT} {FT : Nat → Option FI} (hmix : P.follows .mixedOrders = true) (hT : TOk P T) (hz : TCst T) (hX : XOk P T X) (hF : FTOk P FT) {d G g : Nat} {args : List Value} (ha : ∀ ι, VRs ι args args) {v : Value} (hv : ∀ ι v', VR ι v v' → v' = v)
    (h : ∀ n t, outR (evF T X FT d (.func (.func g) ⟨[]⟩ ⟨[]⟩) args (VH.base G n t)) = some (true, v, some (.fix G n t))) : ClosedG P G g args v := by
  intro n t
  have h := h n t
  cases ho : evF T X FT d (.func (.func g) ⟨[]⟩ ⟨[]⟩) args (VH.base G n t) with
  | none => rw [ho] at h; cases h
  | some r =>
    rw [ho] at h
    simp only [outR, Option.some.injEq, Prod.mk.injEq] at h
    have := evF_ok hmix hT hz hX hF d _ _ _ _ ho _ _ _ _ (.func .nil .nil) (ha _) (HR.base T G n t)
    have h2 : CallF P g ([] ++ args ++ []) (RetR T (iG G) (VH.base G n t) r) (sG G n t) := this
    simp only [List.nil_append, List.append_nil] at h2
    refine h2.mono' fun en σ hR => ?_
    obtain ⟨ι', v', x1, h3, h4, h5⟩ := hR
    rw [h.1] at h5
    rw [h.2.1] at h3
    refine ⟨by rw [h5, hv _ _ h3]; rfl, ?_⟩
    obtain ⟨r', k1, k2⟩ := h4.rows 0 ⟨G, 0, 0⟩ _ (x1.le 0 _ rfl) h.2.2
    rw [k1, k2.2]; rfl

end Go.Sep
