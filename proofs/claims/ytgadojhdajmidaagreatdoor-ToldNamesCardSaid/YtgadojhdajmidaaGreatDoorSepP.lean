/- An operation within a region; regions that do not draw their order. -/
import Derived.Test.YtgadojhdajmidaaGreatDoorSepO
set_option linter.unusedSimpArgs false
set_option linter.unusedVariables false
namespace Go.Sep

theorem dstOk_lt {n : Nat} {d : Option Nat} (h : dstOk n d = true) : ∀ x, d = some x → x < n := by
  intro x hx
  subst hx
  exact Nat.le_of_ble_eq_true h

theorem op_exec {P : Program} {T : Nat → Option TInf} (hT : TOk P T) {n : Nat} {e : Env} {o : Oper} {σ : SHeap} {Q : Fin → SHeap → Prop} {K : Env → SHeap → Prop} (h : opW P T n e o σ Q K)
    {b : Frame} {cs : List Frame} {w : World} {tmps : Array Value} {rs : List Nat} (hfn : ∃ fn, P.funcs[b.fn]? = some fn) (he : EnvOk e tmps) (hm : Marks rs σ w) (hs : Sat w σ)
    {ops : Array Oper} {i : Nat} {rest : List Nat} {k : List Item} (ho : ops[i]? = some o) (hw : Region.wanted o (yielded ops tmps) = true) :
    (∃ v w' σ', K (e.put o.dst v) σ' ∧ Sat w' σ' ∧ Fr σ σ' w w' ∧
      Steps P (lone (b.atR ⟨tmps, marks rs⟩ (.inRegion ops (i :: rest) :: k)) cs w) (lone (b.atR ((⟨tmps, marks rs⟩ : Act).put o.dst v) (.inRegion ops rest :: k)) cs w')) ∨
    (∃ fin w' σ', Q fin σ' ∧ Sat w' σ' ∧ FrM rs σ σ' w w' ∧ Goal P b cs (lone (b.atR ⟨tmps, marks rs⟩ (.inRegion ops (i :: rest) :: k)) cs w) w' fin) := by
  have hg := stepGR_op (P := P) (b := b) (a := ⟨tmps, marks rs⟩) (k := k) (cs := cs) (w := w) (rest := rest) ho hw
  have hfin : ∀ v, (b.atR ⟨tmps, marks rs⟩ (.inRegion ops (i :: rest) :: k)).finish v = b.atR ((⟨tmps, marks rs⟩ : Act).put o.dst v) (.inRegion ops rest :: k) := by
    intro v; rw [Frame.finish_atR, ho]; rfl
  unfold opW at h
  cases hd : dstOk n o.dst with
  | false => rw [hd] at h; exact h.elim
  | true =>
    rw [hd] at h
    simp only [cond_true] at h
    obtain ⟨dst, op, type, pos, after, guard⟩ := o
    simp only at h hd
    split at h
    · rename_i f args argTypes
      rw [Oper.semAt_eq _ _ _ (by intro c hc; cases hc)] at hg
      obtain ⟨fv, hfv, h1⟩ := optW_some h
      have h2 := valsW_ok (a := ⟨tmps, marks rs⟩) he h1
      have hexec : execOp (Act.eval ⟨tmps, marks rs⟩) { dst, op := .call { callee := .value f, args, argTypes }, type, pos, after, guard } =
          (do let d ← Deferred.ofValue fv (args.toList.map (Act.eval ⟨tmps, marks rs⟩)).toArray; invoke d.target d.args) := by
        have : args.map (Act.eval ⟨tmps, marks rs⟩) = (args.toList.map (Act.eval ⟨tmps, marks rs⟩)).toArray := by apply Array.toList_inj.1; simp
        simp only [execOp, resolve, Env.val_ok (a := ⟨tmps, marks rs⟩) he hfv, this]
      rw [hexec] at hg
      rcases callV_steps (P := P) h2 hs (fun _ h => h) (fr := b.atR ⟨tmps, marks rs⟩ (.inRegion ops (i :: rest) :: k)) (cs := cs) (congrArg GStep.bare hg) (.inl ⟨_, _, _, rfl⟩) with
        ⟨v, w', σ', hk, s1, s2, s3⟩ | ⟨ch, w', σ', hq, s1, s2, s3⟩
      · exact .inl ⟨v, w', σ', hk, s1, s2, by rw [hfin] at s3; exact s3⟩
      · rw [Frame.raise_atR] at s3
        obtain ⟨w2, t1, t2, t3⟩ := goal_pan (P := P) (b := b) (cs := cs) (a := ⟨tmps, marks rs⟩) rfl (hm.next s2) s1 hfn s3
        exact .inr ⟨_, w2, σ', hq, t1, (FrM.of s2).trans t2, t3⟩
    · rename_i x
      rw [Oper.semAt_eq _ _ _ (by intro c hc; cases hc)] at hg
      obtain ⟨v, hv, h1⟩ := optW_some h
      cases v <;> first | (exact h1.elim; done) | skip
      rename_i t x'
      have hst : step P (lone (b.atR ⟨tmps, marks rs⟩ (.inRegion ops (i :: rest) :: k)) cs w) = .next (lone { b.atR ⟨tmps, marks rs⟩ (.inRegion ops (i :: rest) :: k) with mode := .panicking [{ v := .iface t x', recovered := false }] } cs w) := by
        refine step_lone_go ?_
        rw [hg, ← Frame.raise_atR]
        have : (execOp (Act.eval ⟨tmps, marks rs⟩) { dst, op := .panic x, type, pos, after, guard }).run P w = .halt (.panic (.iface t x')) w := by
          simp only [execOp, Env.val_ok (a := ⟨tmps, marks rs⟩) he hv]; rfl
        simp only [stepG.apply, Sem.runT_eq, this, if_true, GStep.bare_after]
        rfl
      obtain ⟨w2, t1, t2, t3⟩ := goal_pan (P := P) (b := b) (cs := cs) (a := ⟨tmps, marks rs⟩) rfl hm hs hfn (.one hst)
      exact .inr ⟨_, w2, σ, h1, t1, t2, t3⟩
    · rename_i hn1 hn2
      obtain ⟨v, w', σ', nx, hk, hr, hnx, s1, s2⟩ := efOp_ok (P := P) (a := ⟨tmps, marks rs⟩) (o := { dst, op, type, pos, after, guard }) hT he h hs
      have hnd : ∀ c, op ≠ .defer c := by
        intro c hc; subst hc; exact h
      rw [Oper.semAt_eq _ _ _ hnd] at hg
      refine .inl ⟨v, w', σ', hk, s1, s2, .one (step_lone_go ?_)⟩
      rw [hg, ← hfin]
      rcases hnx with rfl | ⟨rfl, rfl⟩
      · simp only [stepG.apply, Sem.runT_eq, hr, if_true, GStep.bare_after]; rfl
      · simp only [stepG.apply, Sem.runT_eq, hr, if_true, GStep.bare_after]; rfl

/-! ### Guards -/

/-- What is known if the temporary u holds b. -/
def Env.asm (e : Env) (u : Nat) (b : Bool) : Env := fun t => match e t with
  | some (some (u', b'), v) => bif Nat.beq u' u && (b' == b) then some (none, v) else some (some (u', b'), v)
  | o => o

theorem Env.asm_ok {e : Env} {tmps : Array Value} {u : Nat} {b : Bool} (h : EnvOk e tmps) (hu : tmps[u]? = some (.bool b)) : EnvOk (e.asm u b) tmps := by
  intro t g v hv
  simp only [Env.asm] at hv
  split at hv
  · rename_i u' b' x hx
    cases hb : (Nat.beq u' u && (b' == b)) with
    | true =>
      rw [hb] at hv
      cases hv
      simp only [Bool.and_eq_true, beq_iff_eq] at hb
      obtain ⟨h1, rfl⟩ := hb
      obtain rfl := Nat.eq_of_beq_eq_true h1
      exact h t _ _ hx hu
    | false => rw [hb] at hv; cases hv; exact h t _ _ hx
  · exact h t g v hv

/-- Values that need no memory and cannot fail. -/
def pureV (T : Nat → Option TInf) (e : Env) (o : Op) : Option Value :=
  match o with
  | .move x | .assign x => e.val x
  | .binOp op _ x y _ =>
    match e.val x, e.val y with
    | some (.int k a), some (.int k' b) => bif decide (k' = k) then
        (match op with
        | .add => some (.int k (k.wrap (a + b))) | .sub => some (.int k (k.wrap (a - b))) | .mul => some (.int k (k.wrap (a * b)))
        | .eql => some (.bool (decide (a = b))) | .neq => some (.bool (!decide (a = b))) | .lss => some (.bool (decide (a < b))) | .leq => some (.bool (decide (a ≤ b)))
        | .gtr => some (.bool (decide (b < a))) | .geq => some (.bool (decide (b ≤ a))) | _ => none) else none
    | some (.string a), some (.string b) => (match op with | .eql => some (.bool (decide (a = b))) | .neq => some (.bool (!decide (a = b))) | _ => none)
    | _, _ => none
  | .unOp .not _ x => (match e.val x with | some (.bool b) => some (.bool !b) | _ => none)
  | .pick c a b =>
    match e.val c, pickV e c true a, pickV e c false b with
    | some (.bool B), some (.bool x), some (.bool y) => some (.bool (bif B then x else y))
    | _, _, _ => none
  | .convert s t x => (match descOf T s, descOf T t, e.val x with | some _, some (.int k), some (.int _ n) => some (.int k (k.wrap n)) | _, _, _ => none)
  | .call { callee := .builtin .len, args, argTypes } =>
    match args.toList, argTypes.toList with
    | [x], [t] => (match descOf T t, e.val x with | some .string, some (.string s) => some (.int .i64 s.size) | some (.slice _), some (.slice _ n _) => some (.int .i64 n) | _, _ => none)
    | _, _ => none
  | _ => none

theorem pureV_run {P : Program} {T : Nat → Option TInf} (hT : TOk P T) {e : Env} {a : Act} (he : EnvOk e a.tmps) {o : Oper} {v : Value} (h : pureV T e o.op = some v) :
    ∀ w, (execOp a.eval o).run P w = .ok (.value v) w := by
  have nil : ∀ w, Sat w (fun _ => none) := fun w b r hr => by cases hr
  obtain ⟨dst, op, type, pos, after, guard⟩ := o
  simp only at h
  have key : stOp T e op (fun _ => none) (fun v' => v' = v) → ∀ w, (execOp a.eval { dst, op, type, pos, after, guard }).run P w = .ok (.value v) w := by
    intro hst w
    obtain ⟨v', rfl, hr⟩ := stOp_ok (P := P) (o := { dst, op, type, pos, after, guard }) hT he hst
    exact hr w (nil w)
  apply key
  unfold pureV at h
  split at h
  · simp only [stOp, h, optW]
  · simp only [stOp, h, optW]
  · split at h
    · rename_i k x k' y hx hy
      cases hk : decide (k' = k) with
      | false => rw [hk] at h; cases h
      | true =>
        rw [hk] at h
        simp only [cond_true] at h
        simp only [stOp, hx, hy, optW, binA, binW]
        split at h <;> first
          | (cases h; simp only [asI, hk, cond_true, intW])
          | cases h
    · rename_i x y hx hy
      simp only [stOp, hx, hy, optW, binA, binW, asS]
      split at h <;> first
        | (cases h; rfl)
        | cases h
    · cases h
  · split at h
    · rename_i b hx
      cases h
      simp only [stOp, hx, optW, unW, asB]
    · cases h
  · split at h
    · rename_i B x y hc hx hy
      cases h
      simp only [stOp, hc, hx, hy, optW, asB]
    · cases h
  · split at h
    · rename_i hs hd hx
      cases h
      simp only [stOp, hx, optW, cvW, hs, hd, asI]
    · cases h
  · split at h
    · rename_i x t hargs htypes
      split at h
      · rename_i s hd hx
        cases h
        simp only [stOp, hargs, htypes, valsW, hx, optW, lenW, hd, asS]
      · rename_i e' m c hd hx
        cases h
        simp only [stOp, hargs, htypes, valsW, hx, optW, lenW, hd, asSl]
      · cases h
    · cases h
  · cases h

end Go.Sep
