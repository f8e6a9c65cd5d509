/- Regions that do not draw their order. -/
import Derived.Test.YtgadojhdajmidaaGreatDoorSepP
set_option linter.unusedSimpArgs false
set_option linter.unusedVariables false
namespace Go.Sep

def Env.tag (e : Env) (d : Option Nat) (v : Value) (u : Nat) (b : Bool) : Env :=
  match d with
  | none => e
  | some d => fun t => bif Nat.beq t d then some (some (u, b), v) else
    match e t with
    | some (some (u', b'), x) => bif Nat.beq u' d then none else some (some (u', b'), x)
    | o => o

def tagOk (u : Nat) (d : Option Nat) : Bool := match d with | some d => !Nat.beq u d | none => true

theorem EnvOk.tag {e : Env} {a : Act} (h : EnvOk e a.tmps) {d : Option Nat} {v v' : Value} {u : Nat} {b : Bool} (hd : ∀ x, d = some x → x < a.tmps.size) (hu : tagOk u d = true)
    (hv : a.tmps[u]? = some (.bool b) → v' = v) : EnvOk (e.tag d v u b) (a.put d v').tmps := by
  cases d with
  | none => exact h
  | some d =>
    have hd := hd d rfl
    have hud : d ≠ u := fun e => by subst e; simp [tagOk] at hu
    intro t g x hx
    simp only [Env.tag] at hx
    simp only [Act.put]
    cases hb : Nat.beq t d with
    | true =>
      rw [hb] at hx
      cases hx
      obtain rfl := Nat.eq_of_beq_eq_true hb
      simp only
      intro h1
      rw [Array.getElem?_setIfInBounds_ne hud] at h1
      simp [hd, hv h1]
    | false =>
      rw [hb] at hx
      have hne : d ≠ t := fun e => by subst e; simp at hb
      simp only [cond_false] at hx
      split at hx
      · rename_i u' b' y hy
        cases hu2 : Nat.beq u' d with
        | true => rw [hu2] at hx; cases hx
        | false =>
          rw [hu2] at hx
          cases hx
          have hud2 : d ≠ u' := fun e => by subst e; simp at hu2
          have := h t _ _ hy
          simp only at this ⊢
          intro hub
          rw [Array.getElem?_setIfInBounds_ne hud2] at hub
          rw [Array.getElem?_setIfInBounds_ne hne]
          exact this hub
      · rename_i o ho
        have := h t g x hx
        cases g with
        | none => simpa only [Array.getElem?_setIfInBounds_ne hne] using this
        | some ub => exact absurd hx (ho ub.1 ub.2 x)

theorem EnvOk.know {e : Env} {tmps : Array Value} (h : EnvOk e tmps) {u : Nat} {v : Value} (hu : tmps[u]? = some v) : EnvOk (e.set u v) tmps := by
  intro t g x hx
  simp only [Env.set] at hx
  cases hb : Nat.beq t u with
  | true => rw [hb] at hx; cases hx; obtain rfl := Nat.eq_of_beq_eq_true hb; exact hu
  | false =>
    rw [hb] at hx
    simp only [cond_false] at hx
    split at hx
    · rename_i u' b y hy
      cases hu2 : Nat.beq u' u with
      | true => rw [hu2] at hx; cases hx
      | false => rw [hu2] at hx; cases hx; exact h t _ _ hy
    · exact h t g x hx

/-- An operation under its guard. -/
def grdW (P : Program) (T : Nat → Option TInf) (n : Nat) (ops : Array Oper) (e : Env) (o : Oper) (σ : SHeap) (Q : Fin → SHeap → Prop) (K : Env → SHeap → Prop) : Prop :=
  match o.guard with
  | none => opW P T n e o σ Q K
  | some (j, want) => optW ((ops[j]?).bind (·.dst)) fun u =>
    match pureV T (e.asm u want) o.op with
    | some v => bif dstOk n o.dst && tagOk u o.dst then K (e.tag o.dst v u want) σ else False
    | none => optW (e.val (.tmp u)) fun uv => asB uv fun B =>
      cond (B == want) (opW P T n ((e.asm u want).set u (.bool want)) o σ Q K) (bif dstOk n o.dst then K (e.put o.dst undef) σ else False)

def regW (P : Program) (T : Nat → Option TInf) (n : Nat) (ops : Array Oper) (Q : Fin → SHeap → Prop) (K : Env → SHeap → Prop) : List Nat → Env → SHeap → Prop
  | [], e, σ => K e σ
  | i :: l, e, σ => optW ops[i]? fun o => grdW P T n ops e o σ Q (regW P T n ops Q K l)

/-- What an operation has come to: the rest of the region is next, or the frame has ended. -/
def OpDone (P : Program) (b : Frame) (cs : List Frame) (w : World) (tmps : Array Value) (rs : List Nat) (ops : Array Oper) (i : Nat) (rest : List Nat) (k : List Item) (o : Oper) (σ : SHeap) (Q : Fin → SHeap → Prop) (K : Env → SHeap → Prop) : Prop :=
    (∃ v e' w' σ', K e' σ' ∧ EnvOk e' ((⟨tmps, marks rs⟩ : Act).put o.dst v).tmps ∧ Sat w' σ' ∧ Fr σ σ' w w' ∧
      Steps P (lone (b.atR ⟨tmps, marks rs⟩ (.inRegion ops (i :: rest) :: k)) cs w) (lone (b.atR ((⟨tmps, marks rs⟩ : Act).put o.dst v) (.inRegion ops rest :: k)) cs w')) ∨
    (∃ fin w' σ', Q fin σ' ∧ Sat w' σ' ∧ FrM rs σ σ' w w' ∧ Goal P b cs (lone (b.atR ⟨tmps, marks rs⟩ (.inRegion ops (i :: rest) :: k)) cs w) w' fin)

theorem grd_exec {P : Program} {T : Nat → Option TInf} (hT : TOk P T) {n : Nat} {e : Env} {o : Oper} {σ : SHeap} {Q : Fin → SHeap → Prop} {K : Env → SHeap → Prop}
    {b : Frame} {cs : List Frame} {w : World} {tmps : Array Value} {rs : List Nat} (hfn : ∃ fn, P.funcs[b.fn]? = some fn) (hsz : tmps.size = n) (he : EnvOk e tmps) (hm : Marks rs σ w) (hs : Sat w σ)
    {ops : Array Oper} {i : Nat} {rest : List Nat} {k : List Item} (ho : ops[i]? = some o) (h : grdW P T n ops e o σ Q K) :
    OpDone P b cs w tmps rs ops i rest k o σ Q K := by
  have main : ∀ {e : Env}, EnvOk e tmps → Region.wanted o (yielded ops tmps) = true → opW P T n e o σ Q K → OpDone P b cs w tmps rs ops i rest k o σ Q K := fun {e} he hw h => by
    rcases op_exec hT h (b := b) (cs := cs) hfn he hm hs (rest := rest) (k := k) ho hw with ⟨v, w', σ', hk, s1, s2, s3⟩ | r
    · refine Or.inl ⟨v, _, w', σ', hk, EnvOk.put (a := ⟨tmps, marks rs⟩) he ?_, s1, s2, s3⟩
      intro x hx
      have : dstOk n o.dst = true := by
        unfold opW at h
        cases hd : dstOk n o.dst with
        | true => rfl
        | false => rw [hd] at h; exact h.elim
      rw [hsz]; exact dstOk_lt this x hx
    · exact Or.inr r
  have skip : Region.wanted o (yielded ops tmps) = false → step P (lone (b.atR ⟨tmps, marks rs⟩ (.inRegion ops (i :: rest) :: k)) cs w) = .next (lone (b.atR ((⟨tmps, marks rs⟩ : Act).put o.dst undef) (.inRegion ops rest :: k)) cs w) := by
    intro hw
    have := stepR_op_skip (P := P) (b := b) (a := ⟨tmps, marks rs⟩) (k := k) (cs := cs) (w := w) (ops := ops) (i := i) (rest := rest) (by simp [ho, hw])
    simpa [ho] using this
  unfold grdW at h
  split at h
  · rename_i hgd
    exact main he (by unfold Region.wanted; rw [hgd]) h
  · rename_i j want hgd
    obtain ⟨u, hu, h⟩ := optW_some h
    have hy : yielded ops tmps j = (match tmps[u]? with | some (.bool b) => some b | _ => none) := by
      unfold yielded; rw [hu]; rfl
    have hwant : Region.wanted o (yielded ops tmps) = (yielded ops tmps j == some want) := by unfold Region.wanted; rw [hgd]
    split at h
    · rename_i v hv
      cases hd : (dstOk n o.dst && tagOk u o.dst) with
      | false => rw [hd] at h; exact h.elim
      | true =>
        rw [hd] at h
        simp only [cond_true] at h
        simp only [Bool.and_eq_true] at hd
        have hlt : ∀ x, o.dst = some x → x < (⟨tmps, marks rs⟩ : Act).tmps.size := fun x hx => by rw [hsz]; exact dstOk_lt hd.1 x hx
        cases hw : Region.wanted o (yielded ops tmps) with
        | true =>
          have hub : tmps[u]? = some (.bool want) := by
            rw [hwant, hy] at hw
            split at hw
            · rename_i bb hbb; simp at hw; rw [hbb, hw]
            · simp at hw
          have hr := pureV_run (P := P) (a := ⟨tmps, marks rs⟩) hT (Env.asm_ok he hub) hv w
          have hg := stepGR_op (P := P) (b := b) (a := ⟨tmps, marks rs⟩) (k := k) (cs := cs) (w := w) (rest := rest) ho hw
          have hnd : ∀ c, o.op ≠ .defer c := by
            intro c hc; rw [hc] at hv; simp [pureV] at hv
          rw [Oper.semAt_eq _ _ _ hnd] at hg
          refine .inl ⟨v, _, w, σ, h, EnvOk.tag he hlt hd.2 (fun _ => rfl), hs, Fr.refl _ _, .one (step_lone_go ?_)⟩
          have hfin : (b.atR ⟨tmps, marks rs⟩ (.inRegion ops (i :: rest) :: k)).finish v = b.atR ((⟨tmps, marks rs⟩ : Act).put o.dst v) (.inRegion ops rest :: k) := by
            rw [Frame.finish_atR, ho]; rfl
          rw [hg, ← hfin]
          simp only [stepG.apply, Sem.runT_eq, hr, if_true, GStep.bare_after]; rfl
        | false =>
          refine .inl ⟨undef, _, w, σ, h, EnvOk.tag he hlt hd.2 (fun hub => ?_), hs, Fr.refl _ _, .one (skip hw)⟩
          rw [hwant, hy, hub] at hw
          simp at hw
    · obtain ⟨uv, huv, h⟩ := optW_some h
      obtain ⟨B, rfl, h1⟩ := asB_elim h
      clear h
      have hub : tmps[u]? = some (.bool B) := by
        simp only [Env.val] at huv
        split at huv
        · rename_i w' hw'
          cases huv
          exact he u none _ hw'
        · cases huv
      have hw : Region.wanted o (yielded ops tmps) = (B == want) := by rw [hwant, hy, hub]; simp
      cases hB : (B == want) with
      | true =>
        rw [hB] at h1
        obtain rfl : B = want := by simpa using hB
        exact main (EnvOk.know (Env.asm_ok he hub) hub) (by rw [hw, hB]) h1
      | false =>
        rw [hB] at h1
        simp only [cond_false] at h1
        cases hd : dstOk n o.dst with
        | false => rw [hd] at h1; exact h1.elim
        | true =>
          rw [hd] at h1
          exact .inl ⟨undef, _, w, σ, h1, EnvOk.put he (fun x hx => by rw [hsz]; exact dstOk_lt hd x hx), hs, Fr.refl _ _, .one (skip (by rw [hw, hB]))⟩

theorem run_ops {P : Program} {T : Nat → Option TInf} (hT : TOk P T) {f : FuncId} (hfn : ∃ fn, P.funcs[f]? = some fn) {ro : Option Nat} {n : Nat} {k : List Item} {ops : Array Oper} {Q : Fin → SHeap → Prop} {K : Env → SHeap → Prop}
    (hK : ∀ e σ, K e σ → Run P f ro n k e Q σ) : ∀ (l : List Nat) (e : Env) (σ : SHeap), regW P T n ops Q K l e σ → Run P f ro n (.inRegion ops l :: k) e Q σ := by
  intro l
  induction l with
  | nil => exact fun e σ h => (hK e σ h).step fun _ _ _ _ _ _ => stepR_region_end
  | cons i l ih =>
    intro e σ h b cs w tmps rs h1 h2 h3 h4 h5 h6 h7 h8
    obtain ⟨o, ho, h⟩ := optW_some h
    rcases grd_exec hT (b := b) (cs := cs) (rest := l) (k := k) (h1 ▸ hfn) h4 h5 h6 h8 ho h with ⟨v, e', w', σ', hk, g1, g2, g3, g4⟩ | ⟨fin, w', σ', hq, g1, g2, g3⟩
    · obtain ⟨fin, w2, σ2, hq, r1, r2, r3⟩ := ih e' σ' hk b cs w' ((⟨tmps, marks rs⟩ : Act).put o.dst v).tmps rs h1 h2 h3 (by cases o.dst <;> simp [Act.put, h4]) g1 (h6.next g3) h7 g2
      refine ⟨fin, w2, σ2, hq, r1, (FrM.of g3).trans r2, ?_⟩
      have hput : (⟨((⟨tmps, marks rs⟩ : Act).put o.dst v).tmps, marks rs⟩ : Act) = (⟨tmps, marks rs⟩ : Act).put o.dst v := by cases o.dst <;> rfl
      rw [hput] at r3
      exact r3.steps g4
    · exact ⟨fin, w', σ', hq, g1, g2, g3⟩

theorem run_region {P : Program} {T : Nat → Option TInf} (hT : TOk P T) {f : FuncId} (hfn : ∃ fn, P.funcs[f]? = some fn) {ro : Option Nat} {n id : Nat} {k : List Item} {ops : Array Oper} {e : Env} {σ : SHeap} {Q : Fin → SHeap → Prop} {K : Env → SHeap → Prop}
    (hK : ∀ e σ, K e σ → Run P f ro n k e Q σ) (h : regW P T n ops Q K (List.range ops.size) e σ) : Run P f ro n (.code (.region id ops false) :: k) e Q σ :=
  (run_ops hT hfn hK _ e σ h).step fun _ _ _ _ _ _ => stepR_region

end Go.Sep
