/- All operations that change nothing, over an environment of known temporaries. -/
import Derived.Test.YtgadojhdajmidaaGreatDoorSepI
import Derived.Laws.StructEq
set_option linter.unusedSimpArgs false
set_option linter.unusedVariables false
namespace Go.Sep

/-! ### Structs compared -/

/-- Equality of two scalars. -/
def eqS1 (T : Nat → Option TInf) (t : Nat) (a b : Value) (K : Bool → Prop) : Prop :=
  optW (descOf T t) fun d =>
    match d with
    | .bool => asB a fun a => asB b fun b => K (a == b)
    | .int _ => asI a fun k a => asI b fun k' b => bif decide (k' = k) then K (decide (a = b)) else False
    | .string => asS a fun a => asS b fun b => K (decide (a = b))
    | _ => False

theorem eqS1_ok {P : Program} {T : Nat → Option TInf} (hT : TOk P T) {t : Nat} {a b : Value} {K : Bool → Prop} (h : eqS1 T t a b K) (n : Nat) : ∃ r, K r ∧ ∀ w, (Op.equalIn (n + 1) t a b).run P w = .ok r w := by
  unfold eqS1 descOf at h
  cases hi : T t with
  | none => rw [hi] at h; exact h.elim
  | some i =>
    rw [hi] at h
    obtain ⟨td, h1, h2⟩ := (hT t i hi).under
    have h : (match i.desc with
    | .bool => asB a fun a => asB b fun b => K (a == b)
    | .int _ => asI a fun k a => asI b fun k' b => bif decide (k' = k) then K (decide (a = b)) else False
    | .string => asS a fun a => asS b fun b => K (decide (a = b))
    | _ => False) := h
    cases hd : i.desc <;> rw [hd] at h h2 <;> first | exact h.elim | skip
    · cases td <;> simp [TD.fits] at h2
      obtain ⟨x, rfl, h3⟩ := asB_elim h
      obtain ⟨y, rfl, h4⟩ := asB_elim h3
      exact ⟨_, h4, fun w => run_equalIn_bool' w n t x y h1⟩
    · rename_i kk
      cases td <;> simp [TD.fits] at h2
      subst h2
      obtain ⟨k, x, rfl, h3⟩ := asI_elim h
      obtain ⟨k', y, rfl, h4⟩ := asI_elim h3
      cases hk : decide (k' = k) with
      | false => rw [hk] at h4; exact h4.elim
      | true =>
        rw [hk] at h4
        obtain rfl := of_decide_eq_true hk
        refine ⟨_, h4, fun w => ?_⟩
        rw [run_equalIn_int w n t k' kk x y h1]
        congr 1
    · cases td <;> simp [TD.fits] at h2
      obtain ⟨x, rfl, h3⟩ := asS_elim h
      obtain ⟨y, rfl, h4⟩ := asS_elim h3
      refine ⟨_, h4, fun w => ?_⟩
      rw [run_equalIn_string w n t x y h1, toList_inj]

/-- Equality of two structs, field by field. -/
def eqFs (T : Nat → Option TInf) : List (Nat × Nat) → Array Value → Array Value → (Bool → Prop) → Prop
  | [], _, _, K => K true
  | (o, t) :: fs, xs, ys, K => partW T t xs o fun a => partW T t ys o fun b => eqS1 T t a b fun r => bif r then eqFs T fs xs ys K else K false

theorem eqFs_ok {P : Program} {T : Nat → Option TInf} (hT : TOk P T) (n : Nat) : ∀ {gs : List Field} {xs ys : Array Value} {K : Bool → Prop}, (∀ f ∈ gs, f.name ≠ "_") → eqFs T (gs.map fun f => (f.offset, f.type)) xs ys K →
    ∃ r, K r ∧ ∀ w, (Op.eqFields (n + 1) xs ys gs).run P w = .ok r w
  | [], xs, ys, K, _, h => ⟨true, h, fun w => rfl⟩
  | g :: gs, xs, ys, K, hn, h => by
    simp only [List.map_cons, eqFs] at h
    obtain ⟨a, h1, ha⟩ := run_part (P := P) hT h
    obtain ⟨b, h2, hb⟩ := run_part (P := P) hT h1
    obtain ⟨r, h3, hr⟩ := eqS1_ok (P := P) hT h2 n
    cases r with
    | false =>
      refine ⟨false, h3, fun w => ?_⟩
      simp only [Op.eqFields, hn g (by simp), ne_eq, not_false_eq_true, if_true, Sem.run_bind, ha, hb, hr, Result.andThen_ok, Bool.not_false, Sem.run_pure]
    | true =>
      obtain ⟨r, h4, h5⟩ := eqFs_ok hT n (fun f hf => hn f (by simp [hf])) h3
      refine ⟨r, h4, fun w => ?_⟩
      simp only [Op.eqFields, hn g (by simp), ne_eq, not_false_eq_true, if_true, Sem.run_bind, ha, hb, hr, Result.andThen_ok, Bool.not_true, Bool.false_eq_true, if_false, h5]

/-- A binary operator, structs too. -/
def binA (T : Nat → Option TInf) (op : BinOp) (t : Nat) (x y : Value) (K : Value → Prop) : Prop :=
  match x with
  | .agg xs => asAg y fun ys => optW (T t) fun i => i.cmp = true ∧ optW (fieldsOf T t) fun fs =>
    match op with
    | .eql => eqFs T fs xs ys fun r => K (.bool r)
    | .neq => eqFs T fs xs ys fun r => K (.bool !r)
    | _ => False
  | _ => binW T op t x y K

theorem binA_ok {P : Program} {T : Nat → Option TInf} (hT : TOk P T) {op : BinOp} {t : Nat} {x y : Value} {K : Value → Prop} (h : binA T op t x y K) (a b : Operand) :
    ∃ v, K v ∧ ∀ w, (do eqGuard op t a b x y; binOp op t x y : Sem Value).run P w = .ok v w := by
  unfold binA at h
  split at h
  · rename_i xs
    obtain ⟨ys, rfl, h1⟩ := asAg_elim h
    obtain ⟨i, hi, hc, h2⟩ := optW_some h1
    obtain ⟨fs, hfs, h3⟩ := optW_some h2
    obtain ⟨c1, c2, c3⟩ := (hT t i hi).cmp hc
    unfold fieldsOf at hfs
    rw [hi] at hfs
    simp only at hfs
    obtain ⟨td, u1, u2⟩ := (hT t i hi).under
    cases hd : i.desc <;> rw [hd] at hfs u2 <;> first | (cases hfs; done) | skip
    cases hfs
    cases td <;> simp [TD.fits] at u2
    rename_i gs
    subst u2
    have hf : P.fieldsOf t = gs := by simp [Program.fieldsOf, u1]
    have hu : P.underlying t = some (.struct (P.fieldsOf t)) := by rw [hf]; exact u1
    have run : ∀ {K : Bool → Prop}, eqFs T (gs.toList.map fun f => (f.offset, f.type)) xs ys K → ∃ r, K r ∧ ∀ w, (Op.equalIn 10000 t (.agg xs) (.agg ys)).run P w = .ok r w := fun {K} hk => by
      obtain ⟨r, k1, k2⟩ := eqFs_ok (P := P) hT 9998 (c3 gs u1) hk
      refine ⟨r, k1, fun w => ?_⟩
      rw [show (10000 : Nat) = 9999 + 1 from rfl, run_equalIn_struct w 9999 t xs ys hu c1, hf]
      exact k2 w
    cases op <;> first | exact h3.elim | skip
    · obtain ⟨r, k1, k2⟩ := run h3
      refine ⟨_, k1, fun w => ?_⟩
      simp only [Sem.run_bind, run_eqGuard_agg w .eql t a b xs ys c2, Result.andThen_ok, run_eql_struct, k2]
    · obtain ⟨r, k1, k2⟩ := run h3
      refine ⟨_, k1, fun w => ?_⟩
      simp only [Sem.run_bind, run_eqGuard_agg w .neq t a b xs ys c2, Result.andThen_ok, run_neq_struct, k2]
  · exact binW_ok hT h a b

/-- What is known of the temporaries. A value with a tag (u, b) is known only where the temporary u holds b. -/
abbrev Env := Nat → Option (Option (Nat × Bool) × Value)

def Env.set (e : Env) (d : Nat) (v : Value) : Env := fun t => bif Nat.beq t d then some (none, v) else
  match e t with
  | some (some (u, b), x) => bif Nat.beq u d then none else some (some (u, b), x)
  | o => o

def EnvOk (e : Env) (tmps : Array Value) : Prop := ∀ t g v, e t = some (g, v) →
  match g with
  | none => tmps[t]? = some v
  | some (u, b) => tmps[u]? = some (.bool b) → tmps[t]? = some v

def Env.val (e : Env) (x : Operand) : Option Value :=
  match x with
  | .tmp t => (match e t with | some (none, v) => some v | _ => none)
  | .const v => some v
  | .global g => some (.pointer (some ⟨g, 0, none⟩))
  | .func f => some (.func (.func f) #[] #[])

theorem Env.val_ok {e : Env} {a : Act} (h : EnvOk e a.tmps) {x : Operand} {v : Value} (hv : e.val x = some v) : a.eval x = v := by
  cases x with
  | tmp t =>
    simp only [Env.val] at hv
    split at hv
    · rename_i w hw
      cases hv
      have := h t none _ hw
      simp [Act.eval, this]
    · cases hv
  | const c => simp only [Env.val, Option.some.injEq] at hv; exact hv
  | global g => simp only [Env.val, Option.some.injEq] at hv; exact hv
  | func f => simp only [Env.val, Option.some.injEq] at hv; exact hv

def valsW (e : Env) : List Operand → (List Value → Prop) → Prop
  | [], K => K []
  | x :: xs, K => optW (e.val x) fun v => valsW e xs fun vs => K (v :: vs)

theorem valsW_ok {e : Env} {a : Act} (he : EnvOk e a.tmps) : ∀ {xs : List Operand} {K : List Value → Prop}, valsW e xs K → K (xs.map a.eval)
  | [], _, h => h
  | x :: xs, K, h => by
    obtain ⟨v, hv, h⟩ := optW_some h
    have := valsW_ok he h
    rwa [← Env.val_ok he hv] at this

def optV (e : Env) (o : Option Operand) (K : Option Value → Prop) : Prop :=
  match o with
  | none => K none
  | some x => optW (e.val x) fun v => K (some v)

theorem optV_ok {e : Env} {a : Act} (he : EnvOk e a.tmps) {o : Option Operand} {K : Option Value → Prop} (h : optV e o K) : K (o.map a.eval) := by
  cases o with
  | none => exact h
  | some x =>
    obtain ⟨v, hv, h⟩ := optW_some h
    rwa [← Env.val_ok he hv] at h

def partsW (e : Env) : List (Nat × Operand) → (List (Nat × Value) → Prop) → Prop
  | [], K => K []
  | (i, x) :: xs, K => optW (e.val x) fun v => partsW e xs fun vs => K ((i, v) :: vs)

theorem partsW_ok {e : Env} {a : Act} (he : EnvOk e a.tmps) : ∀ {xs : List (Nat × Operand)} {K : List (Nat × Value) → Prop}, partsW e xs K → K (xs.map fun p => (p.1, a.eval p.2))
  | [], _, h => h
  | (i, x) :: xs, K, h => by
    obtain ⟨v, hv, h⟩ := optW_some h
    have := partsW_ok he h
    rw [← Env.val_ok he hv] at this
    exact this

/-- An operand of a choice: it is known where the choice takes it. -/
def pickV (e : Env) (c : Operand) (want : Bool) (x : Operand) : Option Value :=
  match x with
  | .tmp t =>
    match e t with
    | some (none, v) => some v
    | some (some (u, b), v) =>
      match c with
      | .tmp s => bif Nat.beq s u && (b == want) then some v else none
      | _ => none
    | none => none
  | x => e.val x

/-- Operations that change nothing. -/
def stOp (T : Nat → Option TInf) (e : Env) (o : Op) (σ : SHeap) (K : Value → Prop) : Prop :=
  match o with
  | .move x | .assign x => optW (e.val x) K
  | .pick c a b => optW (e.val c) fun cv => asB cv fun B => optW (pickV e c true a) fun x => optW (pickV e c false b) fun y => asB x fun x => asB y fun y => K (.bool (bif B then x else y))
  | .load t a => optW (e.val a) fun v => asP v fun a => ldW T t a σ K
  | .nilCheck x => optW (e.val x) fun v =>
    match v with
    | .pointer (some a) => K (.pointer (some a))
    | .func (.func f) x y => K (.func (.func f) x y)
    | _ => False
  | .binOp op t x y _ => optW (e.val x) fun x => optW (e.val y) fun y => binA T op t x y K
  | .unOp op _ x => optW (e.val x) fun x => unW op x K
  | .convert s t x => optW (e.val x) fun x => cvW T s t x σ K
  | .makeInterface t x => optW (e.val x) fun x => optW (descOf T t) fun d => match d with | .iface _ => False | _ => K (.iface t x)
  | .makeFunc fn first caps => valsW e first.toList fun f => valsW e caps.toList fun c => K (.func fn f.toArray c.toArray)
  | .slice t x lo hi mx => optW (e.val x) fun x => optV e lo fun lo => optV e hi fun hi => optV e mx fun mx => slcW T t x lo hi mx K
  | .fieldAddr s x f => optW (e.val x) fun x => fadW T s x f K
  | .field t x f => optW (e.val x) fun x => fldW T t x f K
  | .indexAddr t x i => optW (e.val x) fun x => optW (e.val i) fun i => iadW T t x i K
  | .index t x i => optW (e.val x) fun x => optW (e.val i) fun i => idxW T t x i K
  | .extract t i => optW (e.val t) fun t => asTp t fun vs => optW vs[i]? K
  | .build t ps => partsW e ps.toList fun ps => bldW T t ps K
  | .typeAssert x _ t true => optW (e.val x) fun x => tasW T x t K
  | .call { callee := .builtin b, args, argTypes } =>
    match b with
    | .len => valsW e args.toList fun vs => match vs, argTypes.toList with | [v], [t] => lenW T t v σ K | _, _ => False
    | .max => valsW e args.toList fun vs => minmaxW true vs K
    | .min => valsW e args.toList fun vs => minmaxW false vs K
    | .unsafeSliceData => valsW e args.toList fun vs => match vs with | [.slice none _ _] => K (.pointer none) | [.slice (some a) _ c] => c ≠ 0 ∧ K (.pointer (some a)) | _ => False
    | _ => False
  | _ => False

theorem pickV_ok {e : Env} {a : Act} (he : EnvOk e a.tmps) {c : Operand} {want : Bool} {x : Operand} {v : Value} (h : pickV e c want x = some v) (hc : a.eval c = .bool want) : a.eval x = v := by
  cases x with
  | tmp t =>
    simp only [pickV] at h
    split at h
    · rename_i w hw
      cases h
      have := he t none _ hw
      simp [Act.eval, this]
    · rename_i u b w hw
      split at h
      · rename_i s
        cases hb : (Nat.beq s u && (b == want)) with
        | false => rw [hb] at h; cases h
        | true =>
          rw [hb] at h; cases h
          simp only [Bool.and_eq_true, beq_iff_eq] at hb
          obtain ⟨h1, rfl⟩ := hb
          obtain rfl := Nat.eq_of_beq_eq_true h1
          have h2 := he t (some (s, b)) _ hw
          simp only at h2
          have h3 : a.tmps[s]? = some (.bool b) := by
            simp only [Act.eval] at hc
            cases hs : a.tmps[s]? with
            | none => simp [hs, undef] at hc
            | some z => simp [hs] at hc; rw [hc]
          simp [Act.eval, h2 h3]
      · cases h
    · cases h
  | const c' => exact Env.val_ok he h
  | global g => exact Env.val_ok he h
  | func f => exact Env.val_ok he h

theorem minmaxW_ok {P : Program} {mx : Bool} {vs : List Value} {K : Value → Prop} (h : minmaxW mx vs K) (x y : Array TypeId) (t : Nat) :
    ∃ v, K v ∧ ∀ w, ((bif mx then Builtin.max_ x t vs.toArray else Builtin.min_ y t vs.toArray) : Sem Value).run P w = .ok v w := by
  unfold minmaxW at h
  split at h
  · cases mx
    · exact ⟨_, h, fun w => rfl⟩
    · exact ⟨_, h, fun w => rfl⟩
  · exact h.elim

theorem stOp_ok {P : Program} {T : Nat → Option TInf} (hT : TOk P T) {e : Env} {a : Act} (he : EnvOk e a.tmps) {o : Oper} {σ : SHeap} {K : Value → Prop} (h : stOp T e o.op σ K) :
    ∃ v, K v ∧ ∀ w, Sat w σ → (execOp a.eval o).run P w = .ok (.value v) w := by
  have fin : ∀ {s : Sem Value} {σ : SHeap} {K : Value → Prop}, (∃ v, K v ∧ ∀ w, Sat w σ → s.run P w = .ok v w) → ∃ v, K v ∧ ∀ w, Sat w σ → ((do pure (.value (← s))) : Sem Next).run P w = .ok (.value v) w := by
    rintro s σ K ⟨v, hk, hr⟩
    exact ⟨v, hk, fun w hs => by simp only [Sem.run_bind, hr w hs, Result.andThen_ok]; rfl⟩
  have fin0 : ∀ {s : Sem Value} {σ : SHeap} {K : Value → Prop}, (∃ v, K v ∧ ∀ w, s.run P w = .ok v w) → ∃ v, K v ∧ ∀ w, Sat w σ → ((do pure (.value (← s))) : Sem Next).run P w = .ok (.value v) w :=
    fun ⟨v, hk, hr⟩ => fin ⟨v, hk, fun w _ => hr w⟩
  obtain ⟨dst, op, type, pos, after, guard⟩ := o
  simp only at h
  unfold stOp at h
  split at h
  · obtain ⟨v, hv, hk⟩ := optW_some h
    exact ⟨v, hk, fun w _ => by simp only [execOp, Env.val_ok he hv]; rfl⟩
  · obtain ⟨v, hv, hk⟩ := optW_some h
    exact ⟨v, hk, fun w _ => by simp only [execOp, Env.val_ok he hv]; rfl⟩
  · obtain ⟨cv, hcv, h1⟩ := optW_some h
    obtain ⟨B, rfl, h2⟩ := asB_elim h1
    obtain ⟨x, hx, h3⟩ := optW_some h2
    obtain ⟨y, hy, h4⟩ := optW_some h3
    obtain ⟨xb, rfl, h5⟩ := asB_elim h4
    obtain ⟨yb, rfl, hk⟩ := asB_elim h5
    have hc := Env.val_ok he hcv
    refine ⟨_, hk, fun w _ => ?_⟩
    cases B with
    | true => simp only [execOp, hc, asBool, Sem.run_bind, Sem.run_pure, Result.andThen_ok, if_true, pickV_ok he hx hc]; rfl
    | false => simp only [execOp, hc, asBool, Sem.run_bind, Sem.run_pure, Result.andThen_ok, Bool.false_eq_true, if_false, pickV_ok he hy hc]; rfl
  · obtain ⟨v, hv, h1⟩ := optW_some h
    obtain ⟨ad, rfl, h2⟩ := asP_elim h1
    obtain ⟨v, hk, hr⟩ := ldW_ok (P := P) hT h2
    simp only [execOp, Env.val_ok he hv]
    exact fin ⟨v, hk, fun w hs => by simp only [Instr.loadAt, Instr.sureAddr, Sem.run_bind, Sem.run_pure, Result.andThen_ok, hr w hs]⟩
  · obtain ⟨v, hv, h1⟩ := optW_some h
    simp only [execOp, Env.val_ok he hv]
    split at h1
    · exact ⟨_, h1, fun w _ => rfl⟩
    · exact ⟨_, h1, fun w _ => rfl⟩
    · exact h1.elim
  · obtain ⟨x, hx, h1⟩ := optW_some h
    obtain ⟨y, hy, h2⟩ := optW_some h1
    simp only [execOp, Env.val_ok he hx, Env.val_ok he hy]
    exact fin0 (binA_ok hT h2 _ _)
  · obtain ⟨x, hx, h1⟩ := optW_some h
    simp only [execOp, Env.val_ok he hx]
    refine fin0 ?_
    unfold unW at h1
    split at h1
    · obtain ⟨b, rfl, hk⟩ := asB_elim h1
      exact ⟨_, hk, fun w => rfl⟩
    · obtain ⟨k, n, rfl, hk⟩ := asI_elim h1
      exact ⟨_, hk, fun w => rfl⟩
    · obtain ⟨k, n, rfl, hk⟩ := asI_elim h1
      exact ⟨_, hk, fun w => rfl⟩
    · exact h1.elim
  · obtain ⟨x, hx, h1⟩ := optW_some h
    simp only [execOp, Env.val_ok he hx]
    exact fin (cvW_ok hT h1)
  · obtain ⟨x, hx, h1⟩ := optW_some h
    obtain ⟨d, hd, h2⟩ := optW_some h1
    obtain ⟨td, f, hu⟩ := descOf_some (P := P) hT hd
    simp only [execOp, Env.val_ok he hx]
    refine fin0 ?_
    split at h2
    · exact h2.elim
    · rename_i hni
      refine ⟨_, h2, fun w => ?_⟩
      simp only [Instr.makeInterface, Sem.run_bind, hu, Result.andThen_ok]
      cases td <;> first | rfl | skip
      cases d <;> first | (simp [TD.fits] at f; done) | exact absurd rfl (hni _)
  · have h1 := valsW_ok he h
    have h2 := valsW_ok he h1
    have key : ∀ xs : Array Operand, xs.map a.eval = (xs.toList.map a.eval).toArray := fun xs => by apply Array.toList_inj.1; simp
    refine ⟨_, h2, fun w _ => ?_⟩
    simp only [execOp, Instr.makeFunc, key]
    rfl
  · obtain ⟨x, hx, h1⟩ := optW_some h
    simp only [execOp, Env.val_ok he hx]
    exact fin0 (slcW_ok hT (optV_ok he (optV_ok he (optV_ok he h1))))
  · obtain ⟨x, hx, h1⟩ := optW_some h
    simp only [execOp, Env.val_ok he hx]
    exact fin0 (fadW_ok hT h1)
  · obtain ⟨x, hx, h1⟩ := optW_some h
    simp only [execOp, Env.val_ok he hx]
    exact fin0 (fldW_ok hT h1)
  · obtain ⟨x, hx, h1⟩ := optW_some h
    obtain ⟨y, hy, h2⟩ := optW_some h1
    simp only [execOp, Env.val_ok he hx, Env.val_ok he hy]
    exact fin0 (iadW_ok hT h2)
  · obtain ⟨x, hx, h1⟩ := optW_some h
    obtain ⟨y, hy, h2⟩ := optW_some h1
    simp only [execOp, Env.val_ok he hx, Env.val_ok he hy]
    exact fin0 (idxW_ok hT h2)
  · obtain ⟨x, hx, h1⟩ := optW_some h
    obtain ⟨vs, rfl, h2⟩ := asTp_elim h1
    obtain ⟨v, hv, hk⟩ := optW_some h2
    simp only [execOp, Env.val_ok he hx]
    exact fin0 ⟨v, hk, fun w => by simp only [Instr.extract, hv]; rfl⟩
  · have h1 := partsW_ok he h
    simp only [execOp]
    refine fin0 (bldW_ok hT ?_)
    simpa using h1
  · obtain ⟨x, hx, h1⟩ := optW_some h
    simp only [execOp, Env.val_ok he hx]
    exact fin0 (tasW_ok hT h1 _)
  · rename_i b args argTypes
    split at h
    · have h1 := valsW_ok he h
      split at h1
      · rename_i v t h3 h4
        obtain ⟨r, hk, hr⟩ := lenW_ok (P := P) hT h1 type
        refine ⟨r, hk, fun w hs => ?_⟩
        have e1 : args.map a.eval = #[v] := by apply Array.toList_inj.1; simpa using h3
        have e2 : argTypes = #[t] := by apply Array.toList_inj.1; simpa using h4
        subst e2
        simp only [execOp, resolve, Sem.run_bind, Sem.run_pure, Result.andThen_ok, invoke, builtin, e1, hr w hs]
      · exact h1.elim
    · have h1 := valsW_ok he h
      obtain ⟨r, hk, hr⟩ := minmaxW_ok (P := P) h1 argTypes argTypes type
      refine ⟨r, hk, fun w hs => ?_⟩
      have := hr w
      simp only [cond_true] at this
      have e1 : args.map a.eval = (args.toList.map a.eval).toArray := by apply Array.toList_inj.1; simp
      simp only [execOp, resolve, Sem.run_bind, Sem.run_pure, Result.andThen_ok, invoke, builtin, e1, this]
    · have h1 := valsW_ok he h
      obtain ⟨r, hk, hr⟩ := minmaxW_ok (P := P) h1 argTypes argTypes type
      refine ⟨r, hk, fun w hs => ?_⟩
      have := hr w
      simp only [cond_false] at this
      have e1 : args.map a.eval = (args.toList.map a.eval).toArray := by apply Array.toList_inj.1; simp
      simp only [execOp, resolve, Sem.run_bind, Sem.run_pure, Result.andThen_ok, invoke, builtin, e1, this]
    · have h1 := valsW_ok he h
      split at h1
      · rename_i l c h3
        refine ⟨_, h1, fun w hs => ?_⟩
        have e1 : args.map a.eval = #[.slice none l c] := by apply Array.toList_inj.1; simpa using h3
        simp only [execOp, resolve, Sem.run_bind, Sem.run_pure, Result.andThen_ok, invoke, builtin, e1]
        rfl
      · rename_i ad l c h3
        refine ⟨_, h1.2, fun w hs => ?_⟩
        have e1 : args.map a.eval = #[.slice (some ad) l c] := by apply Array.toList_inj.1; simpa using h3
        have e2 : (Builtin.unsafeSliceData_ argTypes type #[.slice (some ad) l c]).run P w = .ok (.pointer (some ad)) w := by
          show (if c ≠ 0 then (pure (.pointer (some ad)) : Sem Value) else _).run P w = _
          rw [if_pos h1.1]; rfl
        simp only [execOp, resolve, Sem.run_bind, Sem.run_pure, Result.andThen_ok, invoke, builtin, e1, e2]
      · exact h1.elim
    · exact h.elim
  · exact h.elim

end Go.Sep
